/- datatype.turn: the type in one order, in memory of its own. -/
import Derived.Test.YtbdhihgokkcmfaaGa
import Derived.Test.YtbdhihgokkcmfaaGd
import Derived.Test.YtbdhihgokkcmfaaAr
namespace Go.Proofs.Ytbdhihgokkcmfaa.Ty9
set_option linter.unusedVariables false
set_option linter.unusedSimpArgs false
open Go.RowKit Wd

set_option maxHeartbeats 4000000 in
set_option maxRecDepth 100000 in
theorem turn_any (bg : Bool) (t : Ty) : Fit t → ∀ (v : Value) (w : World), TyAt w w.heap.size t v →
    Calls Try.prog 39 #[v, .bool bg] w fun e w' => ∃ u, e = .returned u ∧ Seg w' w.heap.size w'.heap.size (tn bg t) u ∧ Below w.heap.size w w' := by
  induction t using Ty.ind with
  | h c wd b fs ds bs ns ihf ihb =>
    intro hfit v w ht
    cases hfit with
    | mk _ _ _ _ _ _ _ kf kd kb kn k1 k2 =>
    rw [tn_mk]
    have hrb : reachBytes ≤ 140737488355328 := by decide
    rw [bytesF9] at kf
    rw [bytes8] at kd
    rw [bytesT7] at kb
    rw [bytes24] at kn
    have K1 := Lib.hid k1
    have K2 := Lib.hid k2
    have IF := Lib.hid ihf
    have IB := Lib.hid ihb
    cases ht with
    | mk _ _ _ _ _ _ _ fA dA bA nA fC dC bC nC fb fo db dO bb bo nb nO fv bv hf hd hb hn hfz hnz hnr hcap hfA hdA hbA hnA hf0 hf1 hf2 hft hd0 hb0 hbt hn0' hn1' =>
    have HF0 := Lib.hid hf0
    have HF1 := Lib.hid hf1
    have HF2 := Lib.hid hf2
    have HFT := Lib.hid hft
    have HD0 := Lib.hid hd0
    have HB0 := Lib.hid hb0
    have HBT := Lib.hid hbt
    have HN0 := Lib.hid hn0'
    have HN1 := Lib.hid hn1'
    have HFA := Lib.hid hfA
    have HDA := Lib.hid hdA
    have HBA := Lib.hid hbA
    have HNA := Lib.hid hnA
    have HNB := Lib.hid hnz
    have HNR := Lib.hid hnr
    have HFZ := Lib.hid hfz
    clear hnz hnr hfz hf0 hf1 hf2 hft hd0 hb0 hbt hn0' hn1' hfA hdA hbA hnA ihf ihb k1 k2
    generalize hbb : (if c ≤ 4 then bg else b) = b'
    have HBB := Lib.hid hbb
    clear hbb
    go_enter Try.func39, Try.ntmps39
    go_upto_region 1 with fail
    have HX2 := Lib.hid (Bx.new (w.alloc (.cells #[.int .i64 c, .int .i64 wd, .bool b, .slice fA fs.length fC, .slice dA ds.length dC, .slice bA bs.length bC, .slice nA ns.length nC] 28)) 28 #[.int .i64 0, .int .i64 0, .bool false, .slice none 0 0, .slice none 0 0, .slice none 0 0, .slice none 0 0])
    go_cut [9] (fun s9 wx => s9 = .bool (decide (c ≤ 4)) ∧ wx = ((w.alloc (.cells #[.int .i64 c, .int .i64 wd, .bool b, .slice fA fs.length fC, .slice dA ds.length dC, .slice bA bs.length bC, .slice nA ns.length nC] 28)).alloc (.cells #[.int .i64 0, .int .i64 0, .bool false, .slice none 0 0, .slice none 0 0, .slice none 0 0, .slice none 0 0] 28)))
    case first =>
      go_wp2
      go_meet
      exact ⟨rfl, rfl⟩
    case rest =>
      obtain ⟨rfl, rfl⟩ := hcut
      rename_i hKK
      refine hKK _ _ ?_
      clear hKK
      go_cut [11] (fun _ wx => Bx wx w.heap.size 28 #[.int .i64 c, .int .i64 wd, .bool b', .slice fA fs.length fC, .slice dA ds.length dC, .slice bA bs.length bC, .slice nA ns.length nC] ∧ Bx wx (w.heap.size + 1) 28 #[.int .i64 0, .int .i64 0, .bool false, .slice none 0 0, .slice none 0 0, .slice none 0 0, .slice none 0 0] ∧ Below w.heap.size w wx ∧ wx.heap.size = w.heap.size + 2)
      case first =>
        have HG := Lib.hid (show ∀ x : Bool, Bx ((w.alloc (.cells #[.int .i64 c, .int .i64 wd, .bool x, .slice fA fs.length fC, .slice dA ds.length dC, .slice bA bs.length bC, .slice nA ns.length nC] 28)).alloc (.cells #[.int .i64 0, .int .i64 0, .bool false, .slice none 0 0, .slice none 0 0, .slice none 0 0, .slice none 0 0] 28)) w.heap.size 28 #[.int .i64 c, .int .i64 wd, .bool x, .slice fA fs.length fC, .slice dA ds.length dC, .slice bA bs.length bC, .slice nA ns.length nC] ∧ Bx ((w.alloc (.cells #[.int .i64 c, .int .i64 wd, .bool x, .slice fA fs.length fC, .slice dA ds.length dC, .slice bA bs.length bC, .slice nA ns.length nC] 28)).alloc (.cells #[.int .i64 0, .int .i64 0, .bool false, .slice none 0 0, .slice none 0 0, .slice none 0 0, .slice none 0 0] 28)) (w.heap.size + 1) 28 #[.int .i64 0, .int .i64 0, .bool false, .slice none 0 0, .slice none 0 0, .slice none 0 0, .slice none 0 0] ∧ Below w.heap.size w ((w.alloc (.cells #[.int .i64 c, .int .i64 wd, .bool x, .slice fA fs.length fC, .slice dA ds.length dC, .slice bA bs.length bC, .slice nA ns.length nC] 28)).alloc (.cells #[.int .i64 0, .int .i64 0, .bool false, .slice none 0 0, .slice none 0 0, .slice none 0 0, .slice none 0 0] 28)) ∧ ((w.alloc (.cells #[.int .i64 c, .int .i64 wd, .bool x, .slice fA fs.length fC, .slice dA ds.length dC, .slice bA bs.length bC, .slice nA ns.length nC] 28)).alloc (.cells #[.int .i64 0, .int .i64 0, .bool false, .slice none 0 0, .slice none 0 0, .slice none 0 0, .slice none 0 0] 28)).heap.size = w.heap.size + 2 from fun x => by
          have hx2 := Bx.new (w.alloc (.cells #[.int .i64 c, .int .i64 wd, .bool x, .slice fA fs.length fC, .slice dA ds.length dC, .slice bA bs.length bC, .slice nA ns.length nC] 28)) 28 #[.int .i64 0, .int .i64 0, .bool false, .slice none 0 0, .slice none 0 0, .slice none 0 0, .slice none 0 0]
          rw [size_alloc] at hx2
          exact ⟨(Bx.new w 28 #[.int .i64 c, .int .i64 wd, .bool x, .slice fA fs.length fC, .slice dA ds.length dC, .slice bA bs.length bC, .slice nA ns.length nC]).later (below_new (w.alloc (.cells #[.int .i64 c, .int .i64 wd, .bool x, .slice fA fs.length fC, .slice dA ds.length dC, .slice bA bs.length bC, .slice nA ns.length nC] 28)) (.cells #[.int .i64 0, .int .i64 0, .bool false, .slice none 0 0, .slice none 0 0, .slice none 0 0, .slice none 0 0] 28)) (by simp), hx2, below_more (below_new w _) (below_new (w.alloc (.cells #[.int .i64 c, .int .i64 wd, .bool x, .slice fA fs.length fC, .slice dA ds.length dC, .slice bA bs.length bC, .slice nA ns.length nC] 28)) _), by simp⟩)
        clear HX2
        by_cases hc4 : c ≤ 4
        · have hbb := HBB.out
          rw [if_pos hc4] at hbb
          subst hbb
          go_wp2
          go_meet
          exact HG.out _
        · have hbb := HBB.out
          rw [if_neg hc4] at hbb
          subst hbb
          go_wp2
          go_meet
          exact HG.out _
      case rest =>
        obtain ⟨hx1, hx2, hbe, hws⟩ := hcut
        have HX1 := Lib.hid hx1
        have HX2' := Lib.hid hx2
        have HBE := Lib.hid hbe
        have hmf : fs.length ≤ maxLen := by unfold maxLen; omega
        have hmd : ds.length ≤ maxLen := by unfold maxLen; omega
        have hmb : bs.length ≤ maxLen := by unfold maxLen; omega
        have hmn : ns.length ≤ maxLen := by unfold maxLen; omega
        have HKF := Lib.hid (show fs.length * 144 ≤ 140737488355328 by omega)
        have HKD := Lib.hid (show ds.length * 8 ≤ 140737488355328 by omega)
        have HKB := Lib.hid (show bs.length * 120 ≤ 140737488355328 by omega)
        have HKN := Lib.hid (show ns.length * 24 ≤ 140737488355328 by omega)
        have HWS := Lib.hid hws
        have v3 : wc.drew.cell? ⟨w.heap.size, 3, none⟩ = some (.slice fA fs.length fC) := hx1.cell 3
        have v4 : wc.drew.cell? ⟨w.heap.size, 4, none⟩ = some (.slice dA ds.length dC) := hx1.cell 4
        clear hx1 hx2 hbe kf kd kb kn hrb HX2
        go_upto_region 3 with fail
        go_cut [14] (fun _ wx => ∃ A1 C1 A2 C2 g1 g2 p1, Bx wx w.heap.size 28 #[.int .i64 c, .int .i64 wd, .bool b', .slice A1 fs.length C1, .slice A2 ds.length C2, .slice bA bs.length bC, .slice nA ns.length nC] ∧ Bx wx (w.heap.size + 1) 28 #[.int .i64 0, .int .i64 0, .bool false, .slice none 0 0, .slice none 0 0, .slice none 0 0, .slice none 0 0] ∧ Below w.heap.size w wx ∧ fs.length ≤ C1 ∧ ds.length ≤ C2 ∧ RF wx A1 g1 (w.heap.size + 2) p1 fs fv ∧ RD wx A2 g2 p1 wx.heap.size ds ∧ w.heap.size + 2 ≤ p1 ∧ p1 ≤ wx.heap.size)
        case first =>
          go_region_law (first
            | (go_simp; go_at_call 60; refine (clone_F _ fA fs.length fC (rowsF fs fv).flatten ((flat_len 9 _ (rowsF_len fs fv)).trans (by rw [rowsF_size])) (srcF HFA.out HF0.out HF1.out HF2.out HBE.out.drew) (rowsF_one HFT.out) hmf HKF.out).mono ?_; rintro _ wF ⟨A1, C1, rfl, hcpF⟩; have HCF := Lib.hid hcpF; have HBF := Lib.hid (below_then HBE.out.drew (Nat.le_trans (by omega) (Nat.le_of_eq HWS.out.symm)) hcpF.be); have v4F := (hcpF.be.cell (p := ⟨w.heap.size, 4, none⟩) HX1.out.lt).trans v4; clear hcpF)
            | (go_simp; go_at_call 61; refine (clone_D _ dA ds.length dC (nums ds) (nums_len ds) (srcD HDA.out HD0.out HBF.out) (nums_one ds) hmd HKD.out).mono ?_; rintro _ wD ⟨A2, C2, rfl, hcpD⟩; have HCD := Lib.hid hcpD; have HXD := Lib.hid ((HX1.out.drew.later HCF.out.be HX1.out.lt).later hcpD.be (Nat.lt_of_lt_of_le HX1.out.lt HCF.out.be.size)); have s3 := HXD.out.cell 3; have s4 := HXD.out.cell 4; have z3 := HXD.out.frozen 3; have z4 := HXD.out.frozen 4; clear hcpD))
          all_goals
            obtain ⟨W, hW, hrest⟩ := turn_rows1 HX1.out HX2'.out HBE.out HWS.out HCF.out HCD.out
            go_wp2_with fail
            go_meet
            rw [hW]
            obtain ⟨g1, g2, p1, hr⟩ := hrest
            exact ⟨A1, C1, A2, C2, g1, g2, p1, hr⟩
        case rest =>
          obtain ⟨A1, C1, A2, C2, g1, g2, p1, hx1, hx2, hbe, hc1, hc2, hrf, hrd, hp1, hp2⟩ := hcut
          clear HX1 HX2' HBE HWS v3 v4
          have HX1 := Lib.hid hx1
          have HX2' := Lib.hid hx2
          have HBE := Lib.hid hbe
          have HRF := Lib.hid hrf
          have HRD := Lib.hid hrd
          have HP1 := Lib.hid hp1
          have HP2 := Lib.hid hp2
          have v5 : wc.drew.cell? ⟨w.heap.size, 5, none⟩ = some (.slice bA bs.length bC) := hx1.cell 5
          have v6 : wc.drew.cell? ⟨w.heap.size, 6, none⟩ = some (.slice nA ns.length nC) := hx1.cell 6
          clear hx1 hx2 hbe hrf hrd hp1 hp2
          rename_i hKK
          refine hKK _ _ ?_
          clear hKK
          go_upto_region 4 with fail
          go_cut [22] (fun _ wx => ∃ A3 C3 A4 C4 g3 g4 p2 p3, Bx wx w.heap.size 28 #[.int .i64 c, .int .i64 wd, .bool b', .slice A1 fs.length C1, .slice A2 ds.length C2, .slice A3 bs.length C3, .slice A4 ns.length C4] ∧ Bx wx (w.heap.size + 1) 28 #[.int .i64 0, .int .i64 0, .bool false, .slice none 0 0, .slice none 0 0, .slice none 0 0, .slice none 0 0] ∧ Below w.heap.size w wx ∧ bs.length ≤ C3 ∧ ns.length ≤ C4 ∧
              RF wx A1 g1 (w.heap.size + 2) p1 fs fv ∧ RD wx A2 g2 p1 p2 ds ∧ RB wx A3 g3 p2 p3 bs.length bv ∧ RN wx A4 g4 p3 wx.heap.size ns ∧ w.heap.size + 2 ≤ p1 ∧ p1 ≤ p2 ∧ p2 ≤ p3 ∧ p3 ≤ wx.heap.size)
          case first =>
            go_region_law (first
              | (go_simp; go_at_call 62; refine (clone_B _ bA bs.length bC (rowsB bs.length bv).flatten ((flat_len 7 _ (rowsB_len bs.length bv)).trans (by rw [rowsB_size])) (srcB HBA.out HB0.out HBE.out.drew) (rowsB_one HBT.out) hmb HKB.out).mono ?_; rintro _ wB ⟨A3, C3, rfl, hcpB⟩; have HCB := Lib.hid hcpB; have HBF := Lib.hid (below_then HBE.out.drew (Nat.le_trans (by omega) (Nat.le_trans HP1.out HP2.out)) hcpB.be); have v6B := (hcpB.be.cell (p := ⟨w.heap.size, 6, none⟩) HX1.out.lt).trans v6; clear hcpB)
              | (go_simp; go_at_call 63; refine (clone_N _ nA ns.length nC (mem2 ns) (mem2_len ns) (srcN HNA.out HN0.out HN1.out HBF.out) (mem2_one ns) hmn HKN.out).mono ?_; rintro _ wN ⟨A4, C4, rfl, hcpN⟩; have HCN := Lib.hid hcpN; have HXD := Lib.hid ((HX1.out.drew.later HCB.out.be HX1.out.lt).later hcpN.be (Nat.lt_of_lt_of_le HX1.out.lt HCB.out.be.size)); have s5 := HXD.out.cell 5; have s6 := HXD.out.cell 6; have z5 := HXD.out.frozen 5; have z6 := HXD.out.frozen 6; clear hcpN))
            all_goals
              obtain ⟨W, hW, hrest⟩ := turn_rows2 HX1.out HX2'.out HBE.out HRF.out HRD.out HP1.out HP2.out HCB.out HCN.out
              go_wp2_with fail
              go_meet
              rw [hW]
              obtain ⟨g3, g4, p2, p3, hr⟩ := hrest
              exact ⟨A3, C3, A4, C4, g3, g4, p2, p3, hr⟩
          case rest =>
            clear HX1 HX2' HBE HRF HRD HP1 HP2 v5 v6
            obtain ⟨A3, C3, A4, C4, g3, g4, p2, p3, hx1, hx2, hbe, hc3, hc4, hrf, hrd, hrb, hrn, hp1, hp2, hp3, hp4⟩ := hcut
            rename_i hKK
            refine hKK _ _ ?_
            clear hKK
            have HX1 := Lib.hid hx1
            have HX2' := Lib.hid hx2
            have HBE := Lib.hid hbe
            have HRF := Lib.hid hrf
            have HRD := Lib.hid hrd
            have HRB := Lib.hid hrb
            have HRN := Lib.hid hrn
            have HP := Lib.hid (show w.heap.size + 2 ≤ p1 ∧ p1 ≤ p2 ∧ p2 ≤ p3 ∧ p3 ≤ wc.heap.size from ⟨hp1, hp2, hp3, hp4⟩)
            have HC := Lib.hid (show fs.length ≤ C1 ∧ ds.length ≤ C2 ∧ bs.length ≤ C3 ∧ ns.length ≤ C4 from ⟨hc1, hc2, hc3, hc4⟩)
            have v3 : wc.cell? ⟨w.heap.size, 3, none⟩ = some (.slice A1 fs.length C1) := hx1.cell 3
            clear hx1 hx2 hbe hrf hrd hrb hrn hp1 hp2 hp3 hp4 hc1 hc2 hc3 hc4 HD0 HN0 HN1 HDA HNA HF0 HF1 HF2 HB0 HKF HKD HKB HKN hmf hmd hmb hmn
            go_wp2
            clear v3
            go_loopw [31] (fun i wr => ∃ (k : Nat) (fk : Nat → Nat → Value) (mf : Nat → Nat), k ≤ fs.length ∧ i = .int .i64 k ∧ TL1 wc wr g1 bg fs fv A1 (w.heap.size + 2) p1 k fk mf) (fun i _ => fs.length - (intOf i).toNat)
            case atStart => exact ⟨0, _, _, Nat.zero_le _, rfl, TL1.start HRF.out⟩
            case round =>
              obtain ⟨k, fk, mf, hk, rfl, htl⟩ := hrel
              have HTL := Lib.hid htl
              have hgne : w.heap.size < wc.heap.size ∧ w.heap.size + 1 < wc.heap.size := by have := HP.out; omega
              clear htl
              by_cases hlt : k < fs.length
              · have hg := HTL.out.row.at_ (by omega)
                obtain ⟨rfl, hg1, hg2⟩ := hg
                have hwr := HTL.out.gr.size
                have hp := HP.out
                have hxr := HTL.out.gr.bx HX1.out (fun _ => by omega)
                have v3 : wr.cell? ⟨w.heap.size, 3, none⟩ = some (.slice (some ⟨g1, 0, none⟩) fs.length C1) := hxr.cell 3
                have v3d : wr.drew.cell? ⟨w.heap.size, 3, none⟩ = some (.slice (some ⟨g1, 0, none⟩) fs.length C1) := hxr.cell 3
                have a0 : wr.drew.cell? ⟨g1, k * 9 + 2, none⟩ = some (fk k 0) := HTL.out.row.c2 k hlt 0 (by omega)
                have a1 : wr.drew.cell? ⟨g1, k * 9 + 2 + 1, none⟩ = some (fk k 1) := HTL.out.row.c2 k hlt 1 (by omega)
                have a2 : wr.drew.cell? ⟨g1, k * 9 + 2 + 2, none⟩ = some (fk k 2) := HTL.out.row.c2 k hlt 2 (by omega)
                have a3 : wr.drew.cell? ⟨g1, k * 9 + 2 + 3, none⟩ = some (fk k 3) := HTL.out.row.c2 k hlt 3 (by omega)
                have a4 : wr.drew.cell? ⟨g1, k * 9 + 2 + 4, none⟩ = some (fk k 4) := HTL.out.row.c2 k hlt 4 (by omega)
                have a5 : wr.drew.cell? ⟨g1, k * 9 + 2 + 5, none⟩ = some (fk k 5) := HTL.out.row.c2 k hlt 5 (by omega)
                have a6 : wr.drew.cell? ⟨g1, k * 9 + 2 + 6, none⟩ = some (fk k 6) := HTL.out.row.c2 k hlt 6 (by omega)
                have hbt := HFT.out k hlt
                have ho := HTL.out.old k (Nat.le_refl _)
                rw [← ho 0, ← ho 1, ← ho 2, ← ho 3, ← ho 4, ← ho 5, ← ho 6] at hbt
                have hm := List.getElem_mem hlt
                obtain ⟨fA', dA', bA', nA', fC', dC', bC', nC', e0, e1, e2, e3, e4, e5, e6⟩ := hbt.cells
                rw [e0] at a0 hbt
                rw [e1] at a1 hbt
                rw [e2] at a2 hbt
                rw [e3] at a3 hbt
                rw [e4] at a4 hbt
                rw [e5] at a5 hbt
                rw [e6] at a6 hbt
                have HBW := Lib.hid (HBE.out.trans (HTL.out.gr.below (B := w.heap.size) (by omega) (fun _ => by omega)))
                have HBT1 := Lib.hid (((hbt.later HBW.out).up HBW.out.size).drew)
                have HM := Lib.hid hm
                clear e0 e1 e2 e3 e4 e5 e6 hbt ho hm
                have hkl : (k : Int) < (fs.length : Int) := by omega
                have hk0 : (0 : Int) ≤ (k : Int) := by omega
                have hgw : g1 < wr.heap.size := by omega
                have hbw : w.heap.size < wr.heap.size := by omega
                have HRW := Lib.hid HTL.out.row
                clear hxr
                obtain ⟨T, hT⟩ : ∃ T, tn bg fs[k].ty = T := ⟨_, rfl⟩
                have HT := Lib.hid hT
                clear hT
                go_upto_region 8 with fail
                go_region_law (first
                  | (go_simp; go_at_call 39; refine (IF.out fs[k] HM.out (K1.out _ HM.out) _ _ HBT1.out).mono ?_; rintro _ w2 ⟨u, rfl, hsg, hb2⟩; rw [HT.out] at hsg; obtain ⟨fA9, dA9, bA9, nA9, fC9, dC9, bC9, nC9, rfl⟩ := (hsg.ty (Nat.le_refl _)).shape; have v3n := (hb2.cell (p := ⟨w.heap.size, 3, none⟩) hbw).trans v3; have hcl : ∀ j, w2.cell? ⟨g1, j, none⟩ = wr.drew.cell? ⟨g1, j, none⟩ := fun j => hb2.cell (p := ⟨g1, j, none⟩) hgw; have hfl : ∀ j, w2.frozen? ⟨g1, j, none⟩ = wr.frozen? ⟨g1, j, none⟩ := fun j => hb2.frozen (p := ⟨g1, j, none⟩) hgw; have x0 : w2.cell? ⟨g1, k * 9 + 2, none⟩ = some _ := (hcl _).trans a0; have y0 : w2.frozen? ⟨g1, k * 9 + 2, none⟩ = false := (hfl _).trans (HRW.out.fz (by omega) _); have x1 : w2.cell? ⟨g1, k * 9 + 2 + 1, none⟩ = some _ := (hcl _).trans a1; have y1 : w2.frozen? ⟨g1, k * 9 + 2 + 1, none⟩ = false := (hfl _).trans (HRW.out.fz (by omega) _); have x2 : w2.cell? ⟨g1, k * 9 + 2 + 2, none⟩ = some _ := (hcl _).trans a2; have y2 : w2.frozen? ⟨g1, k * 9 + 2 + 2, none⟩ = false := (hfl _).trans (HRW.out.fz (by omega) _); have x3 : w2.cell? ⟨g1, k * 9 + 2 + 3, none⟩ = some _ := (hcl _).trans a3; have y3 : w2.frozen? ⟨g1, k * 9 + 2 + 3, none⟩ = false := (hfl _).trans (HRW.out.fz (by omega) _); have x4 : w2.cell? ⟨g1, k * 9 + 2 + 4, none⟩ = some _ := (hcl _).trans a4; have y4 : w2.frozen? ⟨g1, k * 9 + 2 + 4, none⟩ = false := (hfl _).trans (HRW.out.fz (by omega) _); have x5 : w2.cell? ⟨g1, k * 9 + 2 + 5, none⟩ = some _ := (hcl _).trans a5; have y5 : w2.frozen? ⟨g1, k * 9 + 2 + 5, none⟩ = false := (hfl _).trans (HRW.out.fz (by omega) _); have x6 : w2.cell? ⟨g1, k * 9 + 2 + 6, none⟩ = some _ := (hcl _).trans a6; have y6 : w2.frozen? ⟨g1, k * 9 + 2 + 6, none⟩ = false := (hfl _).trans (HRW.out.fz (by omega) _); have HSG := Lib.hid hsg; have HB2 := Lib.hid hb2; clear hcl hfl hsg hb2))
                all_goals
                  obtain ⟨wq, hq, fk2, mf2, hst⟩ := HTL.out.step (w2 := w2) (by omega) hlt (below_more ((Below.refl _ wr).drew) HB2.out) (by rw [HT.out]; exact HSG.out)
                  rw [hq]
                  have HST := Lib.hid hst
                  clear hst hq v3 v3n v3d a0 a1 a2 a3 a4 a5 a6 x0 x1 x2 x3 x4 x5 x6 y0 y1 y2 y3 y4 y5 y6
                  go_wp2
                  go_roundw
                  (case rel => exact ⟨k + 1, fk2, mf2, by omega, by go_num, HST.out⟩)
                  (case measure => simp [intOf]; omega)
              · obtain rfl : k = fs.length := by omega
                have hp := HP.out
                have hws := HTL.out.gr.size
                have hxr := HTL.out.gr.bx HX1.out (fun h => by have := HRF.out.at_ h; omega)
                have HX1b := Lib.hid hxr
                have HX2b := Lib.hid (HTL.out.gr.bx HX2'.out (fun h => by have := HRF.out.at_ h; omega))
                have HBW := Lib.hid (HBE.out.trans (HTL.out.gr.below (B := w.heap.size) (by omega) (fun h => by have := HRF.out.at_ h; omega)))
                have HRBb := Lib.hid (HRB.out.keep fun h => HTL.out.gr.block g3 (by have := HRB.out.at_ h; omega) (fun h2 => by have := HRF.out.at_ h2; have := HRB.out.at_ h; omega))
                have HRDb := Lib.hid (HRD.out.keep fun h => HTL.out.gr.block g2 (by have := HRD.out.at_ h; omega) (fun h2 => by have := HRF.out.at_ h2; have := HRD.out.at_ h; omega))
                have HRNb := Lib.hid (HRN.out.keep fun h => HTL.out.gr.block g4 (by have := HRN.out.at_ h; omega) (fun h2 => by have := HRF.out.at_ h2; have := HRN.out.at_ h; omega))
                have v5 : wr.cell? ⟨w.heap.size, 5, none⟩ = some (.slice A3 bs.length C3) := hxr.cell 5
                have HRFa := Lib.hid (show 0 < fs.length → w.heap.size + 2 ≤ g1 ∧ g1 < p1 from fun h => (HRF.out.at_ h).2)
                clear hxr HX1 HX2' HBE HRF HRB HRD HRN IF K1 HFT
                go_wp2
                clear v5
                have HTL0 := Lib.hid HTL.out
                clear HTL
                generalize hW1 : wr = W1 at *
                clear hW1
                go_loopw [51] (fun i wr => ∃ (k : Nat) (fk2 : Nat → Nat → Value) (mb : Nat → Nat), k ≤ bs.length ∧ i = .int .i64 k ∧ TL2 W1 wr g3 bg bs bv A3 p2 p3 k fk2 mb) (fun i _ => bs.length - (intOf i).toNat)
                case atStart => exact ⟨0, _, _, Nat.zero_le _, rfl, TL2.start HRBb.out⟩
                case round =>
                  obtain ⟨k, fk2, mb, hk, rfl, htl⟩ := hrel
                  have HTL := Lib.hid htl
                  clear htl
                  have hwr := HTL.out.gr.size
                  by_cases hlt : k < bs.length
                  · have hg := HTL.out.row.at_ (by omega)
                    obtain ⟨rfl, hg1, hg2⟩ := hg
                    have hxr := HTL.out.gr.bx HX1b.out (fun _ => by omega)
                    have v5 : wr.cell? ⟨w.heap.size, 5, none⟩ = some (.slice (some ⟨g3, 0, none⟩) bs.length C3) := hxr.cell 5
                    have v5d : wr.drew.cell? ⟨w.heap.size, 5, none⟩ = some (.slice (some ⟨g3, 0, none⟩) bs.length C3) := hxr.cell 5
                    have a0 : wr.drew.cell? ⟨g3, k * 7, none⟩ = some (fk2 k 0) := HTL.out.row.c2 k hlt 0 (by omega)
                    have a1 : wr.drew.cell? ⟨g3, k * 7 + 1, none⟩ = some (fk2 k 1) := HTL.out.row.c2 k hlt 1 (by omega)
                    have a2 : wr.drew.cell? ⟨g3, k * 7 + 2, none⟩ = some (fk2 k 2) := HTL.out.row.c2 k hlt 2 (by omega)
                    have a3 : wr.drew.cell? ⟨g3, k * 7 + 3, none⟩ = some (fk2 k 3) := HTL.out.row.c2 k hlt 3 (by omega)
                    have a4 : wr.drew.cell? ⟨g3, k * 7 + 4, none⟩ = some (fk2 k 4) := HTL.out.row.c2 k hlt 4 (by omega)
                    have a5 : wr.drew.cell? ⟨g3, k * 7 + 5, none⟩ = some (fk2 k 5) := HTL.out.row.c2 k hlt 5 (by omega)
                    have a6 : wr.drew.cell? ⟨g3, k * 7 + 6, none⟩ = some (fk2 k 6) := HTL.out.row.c2 k hlt 6 (by omega)
                    have hbt := HBT.out k hlt
                    have ho := HTL.out.old k (Nat.le_refl _)
                    rw [← ho 0, ← ho 1, ← ho 2, ← ho 3, ← ho 4, ← ho 5, ← ho 6] at hbt
                    have hm := List.getElem_mem hlt
                    obtain ⟨fA', dA', bA', nA', fC', dC', bC', nC', e0, e1, e2, e3, e4, e5, e6⟩ := hbt.cells
                    rw [e0] at a0 hbt
                    rw [e1] at a1 hbt
                    rw [e2] at a2 hbt
                    rw [e3] at a3 hbt
                    rw [e4] at a4 hbt
                    rw [e5] at a5 hbt
                    rw [e6] at a6 hbt
                    have HBW2 := Lib.hid (HBW.out.trans (HTL.out.gr.below (B := w.heap.size) (by omega) (fun _ => by omega)))
                    have HBT1 := Lib.hid (((hbt.later HBW2.out).up HBW2.out.size).drew)
                    have HM := Lib.hid hm
                    clear e0 e1 e2 e3 e4 e5 e6 hbt ho hm
                    have hkl : (k : Int) < (bs.length : Int) := by omega
                    have hk0 : (0 : Int) ≤ (k : Int) := by omega
                    have hgw : g3 < wr.heap.size := by omega
                    have hbw : w.heap.size < wr.heap.size := by omega
                    have HRW := Lib.hid HTL.out.row
                    clear hxr
                    obtain ⟨T, hT⟩ : ∃ T, tn bg bs[k] = T := ⟨_, rfl⟩
                    have HT := Lib.hid hT
                    clear hT
                    go_upto_region 13 with fail
                    go_region_law (first
                      | (go_simp; go_at_call 39; refine (IB.out bs[k] HM.out (K2.out _ HM.out) _ _ HBT1.out).mono ?_; rintro _ w2 ⟨u, rfl, hsg, hb2⟩; rw [HT.out] at hsg; obtain ⟨fA9, dA9, bA9, nA9, fC9, dC9, bC9, nC9, rfl⟩ := (hsg.ty (Nat.le_refl _)).shape; have v5n := (hb2.cell (p := ⟨w.heap.size, 5, none⟩) hbw).trans v5; have hcl : ∀ j, w2.cell? ⟨g3, j, none⟩ = wr.drew.cell? ⟨g3, j, none⟩ := fun j => hb2.cell (p := ⟨g3, j, none⟩) hgw; have hfl : ∀ j, w2.frozen? ⟨g3, j, none⟩ = wr.frozen? ⟨g3, j, none⟩ := fun j => hb2.frozen (p := ⟨g3, j, none⟩) hgw; have x0 : w2.cell? ⟨g3, k * 7, none⟩ = some _ := (hcl _).trans a0; have y0 : w2.frozen? ⟨g3, k * 7, none⟩ = false := (hfl _).trans (HRW.out.fz (by omega) _); have x1 : w2.cell? ⟨g3, k * 7 + 1, none⟩ = some _ := (hcl _).trans a1; have y1 : w2.frozen? ⟨g3, k * 7 + 1, none⟩ = false := (hfl _).trans (HRW.out.fz (by omega) _); have x2 : w2.cell? ⟨g3, k * 7 + 2, none⟩ = some _ := (hcl _).trans a2; have y2 : w2.frozen? ⟨g3, k * 7 + 2, none⟩ = false := (hfl _).trans (HRW.out.fz (by omega) _); have x3 : w2.cell? ⟨g3, k * 7 + 3, none⟩ = some _ := (hcl _).trans a3; have y3 : w2.frozen? ⟨g3, k * 7 + 3, none⟩ = false := (hfl _).trans (HRW.out.fz (by omega) _); have x4 : w2.cell? ⟨g3, k * 7 + 4, none⟩ = some _ := (hcl _).trans a4; have y4 : w2.frozen? ⟨g3, k * 7 + 4, none⟩ = false := (hfl _).trans (HRW.out.fz (by omega) _); have x5 : w2.cell? ⟨g3, k * 7 + 5, none⟩ = some _ := (hcl _).trans a5; have y5 : w2.frozen? ⟨g3, k * 7 + 5, none⟩ = false := (hfl _).trans (HRW.out.fz (by omega) _); have x6 : w2.cell? ⟨g3, k * 7 + 6, none⟩ = some _ := (hcl _).trans a6; have y6 : w2.frozen? ⟨g3, k * 7 + 6, none⟩ = false := (hfl _).trans (HRW.out.fz (by omega) _); have HSG := Lib.hid hsg; have HB2 := Lib.hid hb2; clear hcl hfl hsg hb2))
                    all_goals
                      obtain ⟨wq, hq, fk3, mf2, hst⟩ := HTL.out.step (w2 := w2) (by omega) hlt (below_more ((Below.refl _ wr).drew) HB2.out) (by rw [HT.out]; exact HSG.out)
                      rw [hq]
                      have HST := Lib.hid hst
                      clear hst hq v5 v5n v5d a0 a1 a2 a3 a4 a5 a6 x0 x1 x2 x3 x4 x5 x6 y0 y1 y2 y3 y4 y5 y6
                      go_wp2
                      go_roundw
                      (case rel => exact ⟨k + 1, fk3, mf2, by omega, by go_num, HST.out⟩)
                      (case measure => simp [intOf]; omega)
                  · obtain rfl : k = bs.length := by omega
                    have hp := HP.out
                    have hws := HTL0.out.gr.size
                    have hseg := turn_seg (wr := wr) (lo := w.heap.size + 2) (hi := wr.heap.size) (p4 := wc.heap.size) (bg := bg) (b' := b') (c := c) (wd := wd) hf hd hb hn HFZ.out HNB.out HNR.out HC.out
                      (RF.mk (fun h => by have := HTL0.out.row.at_ h; exact ⟨this.1, this.2.1, this.2.2⟩) (HTL0.out.row.keep fun h => HTL.out.gr.block g1 (by have := HRFa.out h; omega) (fun h2 => by have := HRFa.out h; have := HRBb.out.at_ h2; omega)).c0 (HTL0.out.row.keep fun h => HTL.out.gr.block g1 (by have := HRFa.out h; omega) (fun h2 => by have := HRFa.out h; have := HRBb.out.at_ h2; omega)).c1 (HTL0.out.row.keep fun h => HTL.out.gr.block g1 (by have := HRFa.out h; omega) (fun h2 => by have := HRFa.out h; have := HRBb.out.at_ h2; omega)).c2 (HTL0.out.row.keep fun h => HTL.out.gr.block g1 (by have := HRFa.out h; omega) (fun h2 => by have := HRFa.out h; have := HRBb.out.at_ h2; omega)).fz)
                      (HRDb.out.keep fun h => HTL.out.gr.block g2 (by have := HRDb.out.at_ h; omega) (fun h2 => by have := HRDb.out.at_ h; have := HRBb.out.at_ h2; omega))
                      HTL.out.row (HRNb.out.keep fun h => HTL.out.gr.block g4 (by have := HRNb.out.at_ h; omega) (fun h2 => by have := HRNb.out.at_ h; have := HRBb.out.at_ h2; omega))
                      (fun i h => (HTL0.out.sg i h h).keep fun j h1 h2 => HTL.out.gr.block j (by have h3 := up_to HTL0.out.mono (i + 1) fs.length (by omega) (Nat.le_refl _); have h4 := HTL0.out.mk_; omega) (fun h3 => by have h4 := HRBb.out.at_ h3; have h5 := up_to HTL0.out.mono 0 i (Nat.zero_le _) (by omega); rw [HTL0.out.m0] at h5; omega))
                      (fun i h => HTL.out.sg i h h) (by omega) (by omega) (by omega) (by omega) (by rw [HTL0.out.m0]; exact Nat.le_refl _) HTL0.out.mono (by rw [HTL.out.m0]; exact HTL0.out.mk_) HTL.out.mono HTL.out.mk_
                    have HSEG := Lib.hid hseg
                    have HBE3 := Lib.hid (HBW.out.trans (HTL.out.gr.below (B := w.heap.size) (by omega) (fun h => by have := HRBb.out.at_ h; omega)))
                    have hx1 := HTL.out.gr.bx HX1b.out (fun h => by have := HRBb.out.at_ h; omega)
                    have hx2 := HTL.out.gr.bx HX2b.out (fun h => by have := HRBb.out.at_ h; omega)
                    have d0 : wr.cell? ⟨w.heap.size, 0, none⟩ = some (.int .i64 c) := hx1.cell 0
                    have d1 : wr.cell? ⟨w.heap.size, 1, none⟩ = some (.int .i64 wd) := hx1.cell 1
                    have d2 : wr.cell? ⟨w.heap.size, 2, none⟩ = some (.bool b') := hx1.cell 2
                    have d3 : wr.cell? ⟨w.heap.size, 3, none⟩ = some (.slice A1 fs.length C1) := hx1.cell 3
                    have d4 : wr.cell? ⟨w.heap.size, 4, none⟩ = some (.slice A2 ds.length C2) := hx1.cell 4
                    have d5 : wr.cell? ⟨w.heap.size, 5, none⟩ = some (.slice A3 bs.length C3) := hx1.cell 5
                    have d6 : wr.cell? ⟨w.heap.size, 6, none⟩ = some (.slice A4 ns.length C4) := hx1.cell 6
                    have r0 : wr.cell? ⟨w.heap.size + 1, 0, none⟩ = some (.int .i64 0) := hx2.cell 0
                    have r1 : wr.cell? ⟨w.heap.size + 1, 1, none⟩ = some (.int .i64 0) := hx2.cell 1
                    have r2 : wr.cell? ⟨w.heap.size + 1, 2, none⟩ = some (.bool false) := hx2.cell 2
                    have r3 : wr.cell? ⟨w.heap.size + 1, 3, none⟩ = some (.slice none 0 0) := hx2.cell 3
                    have r4 : wr.cell? ⟨w.heap.size + 1, 4, none⟩ = some (.slice none 0 0) := hx2.cell 4
                    have r5 : wr.cell? ⟨w.heap.size + 1, 5, none⟩ = some (.slice none 0 0) := hx2.cell 5
                    have r6 : wr.cell? ⟨w.heap.size + 1, 6, none⟩ = some (.slice none 0 0) := hx2.cell 6
                    have z0 := hx2.frozen 0
                    have z1 := hx2.frozen 1
                    have z2 := hx2.frozen 2
                    have z3 := hx2.frozen 3
                    have z4 := hx2.frozen 4
                    have z5 := hx2.frozen 5
                    have z6 := hx2.frozen 6
                    clear hseg hx1 hx2 HTL HTL0 HRBb HRDb HRNb HX1b HX2b HBW hp hws
                    go_wp2
                    refine bodyPost_ret (v := .agg #[.int .i64 c, .int .i64 wd, .bool b', .slice A1 fs.length C1, .slice A2 ds.length C2, .slice A3 bs.length C3, .slice A4 ns.length C4]) (by simp [results, Try.results39, go_sem, r0, r1, r2, r3, r4, r5, r6]) rfl ⟨_, rfl, Seg.widen (Seg.keep HSEG.out fun g h1 h2 => ?_) (by omega) (by simp [World.setCell]), ?_⟩
                    · have hne : g ≠ w.heap.size + 1 := by omega
                      rw [Below.heap_setCell _ _ _ _ hne, Below.heap_setCell _ _ _ _ hne, Below.heap_setCell _ _ _ _ hne, Below.heap_setCell _ _ _ _ hne, Below.heap_setCell _ _ _ _ hne, Below.heap_setCell _ _ _ _ hne, Below.heap_setCell _ _ _ _ hne]
                    · refine Below.setCell (Below.setCell (Below.setCell (Below.setCell (Below.setCell (Below.setCell (Below.setCell HBE3.out ?_ _) ?_ _) ?_ _) ?_ _) ?_ _) ?_ _) ?_ _ <;> exact Nat.le_succ _
end Go.Proofs.Ytbdhihgokkcmfaa.Ty9
