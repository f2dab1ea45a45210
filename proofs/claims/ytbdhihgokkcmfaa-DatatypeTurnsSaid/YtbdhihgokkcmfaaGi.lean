/- The law's spoil: only the type's own blocks turn. -/
import Derived.Test.YtbdhihgokkcmfaaGa
import Derived.Test.YtbdhihgokkcmfaaTv
namespace Go.Proofs.Ytbdhihgokkcmfaa.Ty9
set_option linter.unusedVariables false
set_option linter.unusedSimpArgs false
open Go.RowKit Wd

set_option maxHeartbeats 4000000 in
set_option maxRecDepth 100000 in
theorem spoil_any (t : Ty) : ∀ (v : Value) (w : World) (lo hi : Nat), hi ≤ w.heap.size → Seg w lo hi t v →
    Calls Try.prog 25 #[v] w fun e w' => e = .returned (.tuple #[]) ∧ Ch (fun j => lo ≤ j ∧ j < hi) w w' := by
  induction t using Ty.ind with
  | h c wd b fs ds bs ns ihf ihb =>
    intro v w lo hi hhi hs
    have IF := Lib.hid ihf
    have IB := Lib.hid ihb
    cases hs with
    | mk _ _ p1 p2 p3 p4 mf mb _ _ _ _ _ _ _ fA dA bA nA fC dC bC nC fb db bb nb fv bv hf hd hb hn hfz hnz hnr hcap hfA hdA hbA hnA hf0 hf1 hf2 hft hd0 hb0 hbt hn0' hn1' zf zd zb zn o1 o2 o3 o4 o5 of_ o6 ob o7 =>
    have hmf := up_to of_ 0 fs.length (Nat.zero_le _) (Nat.le_refl _)
    have hmb := up_to ob 0 bs.length (Nat.zero_le _) (Nat.le_refl _)
    have HF0 := Lib.hid hf0
    have HF1 := Lib.hid hf1
    have HF2 := Lib.hid hf2
    have HFT := Lib.hid hft
    have HD0 := Lib.hid hd0
    have HB0 := Lib.hid hb0
    have HBT := Lib.hid hbt
    have HN0 := Lib.hid hn0'
    have HN1 := Lib.hid hn1'
    have HFA := Lib.hid hfA
    have HDA := Lib.hid hdA
    have HBA := Lib.hid hbA
    have HNA := Lib.hid hnA
    have HZF := Lib.hid zf
    have HZD := Lib.hid zd
    have HZB := Lib.hid zb
    have HZN := Lib.hid zn
    have HOF := Lib.hid of_
    have HOB := Lib.hid ob
    have HBW := Lib.hid (below_new w (.cells #[.int .i64 c, .int .i64 wd, .bool b, .slice fA fs.length fC, .slice dA ds.length dC, .slice bA bs.length bC, .slice nA ns.length nC] 28))
    have HBX := Lib.hid (Bx.new w 28 #[.int .i64 c, .int .i64 wd, .bool b, .slice fA fs.length fC, .slice dA ds.length dC, .slice bA bs.length bC, .slice nA ns.length nC])
    have HWS := Lib.hid (size_alloc w (.cells #[.int .i64 c, .int .i64 wd, .bool b, .slice fA fs.length fC, .slice dA ds.length dC, .slice bA bs.length bC, .slice nA ns.length nC] 28))
    clear hfz hnz hnr hcap hfA hdA hbA hnA hf0 hf1 hf2 hft hd0 hb0 hbt hn0' hn1' zf zd zb zn of_ ob ihf ihb
    go_enter Try.func25, Try.ntmps25
    go_upto_region 1 with fail
    generalize hW : (w.alloc (.cells #[.int .i64 c, .int .i64 wd, .bool b, .slice fA fs.length fC, .slice dA ds.length dC, .slice bA bs.length bC, .slice nA ns.length nC] 28)) = W at *
    clear hW
    go_wp2
    have HCH0 := Lib.hid (show Ch (fun j => lo ≤ j ∧ j < hi) w W from Ch.of_below HBW.out)
    have HBX0 := Lib.hid HBX.out
    have hWc : ∀ g j, g < w.heap.size → W.cell? ⟨g, j, none⟩ = w.cell? ⟨g, j, none⟩ := fun g j hg => HBW.out.cell (p := ⟨g, j, none⟩) hg
    have hWz : ∀ g j, g < w.heap.size → W.frozen? ⟨g, j, none⟩ = w.frozen? ⟨g, j, none⟩ := fun g j hg => HBW.out.frozen (p := ⟨g, j, none⟩) hg
    have HR0F0 := Lib.hid (show ∀ i (h : i < fs.length), W.cell? ⟨fb, i * 9, none⟩ = some (.string fs[i].name) from fun i h => (hWc _ _ (by have := HFA.out (by omega); omega)).trans (HF0.out i h))
    have HR0F1 := Lib.hid (show ∀ i (h : i < fs.length), W.cell? ⟨fb, i * 9 + 1, none⟩ = some (.int .i64 fs[i].pos) from fun i h => (hWc _ _ (by have := HFA.out (by omega); omega)).trans (HF1.out i h))
    have HR0F2 := Lib.hid (show ∀ i, i < fs.length → ∀ k, k < 7 → W.cell? ⟨fb, i * 9 + 2 + k, none⟩ = some (fv i k) from fun i h k hk => (hWc _ _ (by have := HFA.out (by omega); omega)).trans (HF2.out i h k hk))
    have HR0FT := Lib.hid (show ∀ i (h : i < fs.length), Seg W (mf i) (mf (i + 1)) fs[i].ty (.agg #[fv i 0, fv i 1, fv i 2, fv i 3, fv i 4, fv i 5, fv i 6]) from fun i h => (HFT.out i h).keep fun j h1 h2 => HBW.out.block j (by have := up_to HOF.out (i + 1) fs.length (by omega) (Nat.le_refl _); omega))
    have HZ0F := Lib.hid (show 0 < fs.length → ∀ j, W.frozen? ⟨fb, j, none⟩ = false from fun h j => (hWz _ _ (by have := HFA.out h; omega)).trans (HZF.out h j))
    clear hWc hWz
    go_loopw [2] (fun i wr => ∃ k : Nat, k ≤ fs.length ∧ i = .int .i64 k ∧ SL W wr fb fs.length 9 k mf) (fun i _ => fs.length - (intOf i).toNat)
    case atStart => exact ⟨0, Nat.zero_le _, rfl, SL.start _ _ _ _ _⟩
    case round =>
      obtain ⟨k, hk, rfl, hsl⟩ := hrel
      have HSL := Lib.hid hsl
      clear hsl
      have hcs := HCH0.out.size
      have hcw := HSL.out.ch.size
      have hbx := HSL.out.ch.bx HBX0.out (fun h => by
        have h6 := up_to HOF.out k fs.length hk (Nat.le_refl _)
        rcases h with h | h
        · have h5 := HFA.out h.1; omega
        · omega)
      have cb : wr.cell? ⟨w.heap.size, 3, none⟩ = some (.slice fA fs.length fC) := hbx.cell 3
      by_cases hlt : k < fs.length
      · obtain ⟨rfl, hg1, hg2⟩ := HFA.out (by omega)
        have hkl : (k : Int) < (fs.length : Int) := by omega
        have hk0 : (0 : Int) ≤ (k : Int) := by omega
        have hz : ∀ j, wr.frozen? ⟨fb, j, none⟩ = false := fun j => (HSL.out.fz j).trans (HZ0F.out (by omega) j)
        have a0 : wr.cell? ⟨fb, k * 9, none⟩ = some (.string fs[k].name) := (HSL.out.c _ (by omega)).trans (HR0F0.out k hlt)
        have a1 : wr.cell? ⟨fb, k * 9 + 1, none⟩ = some (.int .i64 fs[k].pos) := (HSL.out.c _ (by omega)).trans (HR0F1.out k hlt)
        have a2 : wr.cell? ⟨fb, k * 9 + 2, none⟩ = some (fv k 0) := (HSL.out.c _ (by omega)).trans (HR0F2.out k hlt 0 (by omega))
        have a3 : wr.cell? ⟨fb, k * 9 + 2 + 1, none⟩ = some (fv k 1) := (HSL.out.c _ (by omega)).trans (HR0F2.out k hlt 1 (by omega))
        have a4 : wr.cell? ⟨fb, k * 9 + 2 + 2, none⟩ = some (fv k 2) := (HSL.out.c _ (by omega)).trans (HR0F2.out k hlt 2 (by omega))
        have a5 : wr.cell? ⟨fb, k * 9 + 2 + 3, none⟩ = some (fv k 3) := (HSL.out.c _ (by omega)).trans (HR0F2.out k hlt 3 (by omega))
        have a6 : wr.cell? ⟨fb, k * 9 + 2 + 4, none⟩ = some (fv k 4) := (HSL.out.c _ (by omega)).trans (HR0F2.out k hlt 4 (by omega))
        have a7 : wr.cell? ⟨fb, k * 9 + 2 + 5, none⟩ = some (fv k 5) := (HSL.out.c _ (by omega)).trans (HR0F2.out k hlt 5 (by omega))
        have a8 : wr.cell? ⟨fb, k * 9 + 2 + 6, none⟩ = some (fv k 6) := (HSL.out.c _ (by omega)).trans (HR0F2.out k hlt 6 (by omega))
        have h7 := up_to HOF.out 0 k (Nat.zero_le _) hk
        have h8 := HOF.out k hlt
        have h9 := up_to HOF.out (k + 1) fs.length (by omega) (Nat.le_refl _)
        have hsg := HR0FT.out k hlt
        obtain ⟨fA', dA', bA', nA', fC', dC', bC', nC', e0, e1, e2, e3, e4, e5, e6⟩ := (hsg.ty (Nat.le_refl _)).cells
        rw [e0] at a2 hsg
        rw [e1] at a3 hsg
        rw [e2] at a4 hsg
        rw [e3] at a5 hsg
        rw [e4] at a6 hsg
        rw [e5] at a7 hsg
        rw [e6] at a8 hsg
        have HSG := Lib.hid (hsg.keep (w2 := wr) fun j h1 h2 => HSL.out.ch.block j (by omega) (fun h => by rcases h with h | h <;> omega))
        have hm := List.getElem_mem hlt
        have hmw : mf (k + 1) ≤ wr.heap.size := by omega
        clear e0 e1 e2 e3 e4 e5 e6 hsg
        go_wp2_with (go_at_call 25; refine (IF.out fs[k] hm _ wr _ _ hmw HSG.out).mono ?_)
        first
          | rintro _ w2 rfl hch
          | rintro _ w2 ⟨rfl, hch⟩
        have hgm : ¬ (mf k ≤ fb ∧ fb < mf (k + 1)) := by omega
        have hgw : fb < wr.heap.size := by omega
        have hbx2 := hch.bx hbx (by omega)
        have cb2 : w2.cell? ⟨w.heap.size, 3, none⟩ = some (.slice (some ⟨fb, 0, none⟩) fs.length fC) := hbx2.cell 3
        have b0 : w2.cell? ⟨fb, k * 9, none⟩ = some _ := (hch.cell hgw hgm _).trans a0
        have y0 : w2.frozen? ⟨fb, k * 9, none⟩ = false := (hch.frozen hgw hgm _).trans (hz _)
        have b1 : w2.cell? ⟨fb, k * 9 + 1, none⟩ = some _ := (hch.cell hgw hgm _).trans a1
        have y1 : w2.frozen? ⟨fb, k * 9 + 1, none⟩ = false := (hch.frozen hgw hgm _).trans (hz _)
        have b2 : w2.cell? ⟨fb, k * 9 + 2, none⟩ = some _ := (hch.cell hgw hgm _).trans a2
        have y2 : w2.frozen? ⟨fb, k * 9 + 2, none⟩ = false := (hch.frozen hgw hgm _).trans (hz _)
        have b3 : w2.cell? ⟨fb, k * 9 + 3, none⟩ = some _ := (hch.cell hgw hgm _).trans a3
        have y3 : w2.frozen? ⟨fb, k * 9 + 3, none⟩ = false := (hch.frozen hgw hgm _).trans (hz _)
        have b4 : w2.cell? ⟨fb, k * 9 + 4, none⟩ = some _ := (hch.cell hgw hgm _).trans a4
        have y4 : w2.frozen? ⟨fb, k * 9 + 4, none⟩ = false := (hch.frozen hgw hgm _).trans (hz _)
        have b5 : w2.cell? ⟨fb, k * 9 + 5, none⟩ = some _ := (hch.cell hgw hgm _).trans a5
        have y5 : w2.frozen? ⟨fb, k * 9 + 5, none⟩ = false := (hch.frozen hgw hgm _).trans (hz _)
        have b6 : w2.cell? ⟨fb, k * 9 + 6, none⟩ = some _ := (hch.cell hgw hgm _).trans a6
        have y6 : w2.frozen? ⟨fb, k * 9 + 6, none⟩ = false := (hch.frozen hgw hgm _).trans (hz _)
        have b7 : w2.cell? ⟨fb, k * 9 + 7, none⟩ = some _ := (hch.cell hgw hgm _).trans a7
        have y7 : w2.frozen? ⟨fb, k * 9 + 7, none⟩ = false := (hch.frozen hgw hgm _).trans (hz _)
        have b8 : w2.cell? ⟨fb, k * 9 + 8, none⟩ = some _ := (hch.cell hgw hgm _).trans a8
        have y8 : w2.frozen? ⟨fb, k * 9 + 8, none⟩ = false := (hch.frozen hgw hgm _).trans (hz _)
        have HCC := Lib.hid hch
        clear hch hbx2 hbx cb hz a0 a1 a2 a3 a4 a5 a6 a7 a8
        have hst := HSL.out.step (w2 := w2) hlt (by omega) (by omega) (by omega) (by omega) HCC.out [(.string ⟨#[115, 112, 111, 105, 108, 116]⟩), (.int .i64 0), (.int .i64 0), (.int .i64 0), (.bool false), (.slice none 0 0), (.slice none 0 0), (.slice none 0 0), (.slice none 0 0)] rfl
        rw [← set9] at hst
        have HST := Lib.hid hst
        clear hst
        go_wp2
        go_roundw
        case rel => exact ⟨k + 1, by omega, by go_num, HST.out⟩
        case measure => simp [intOf]; omega
      · obtain rfl : k = fs.length := by omega
        have HCH1 := Lib.hid (HCH0.out.trans (R := fun j => lo ≤ j ∧ j < hi) HSL.out.ch (fun j h => h) (fun j h => by
          rcases h with h | h
          · have h5 := HFA.out h.1; omega
          · omega))
        have HBX1 := Lib.hid hbx
        have HK1 := Lib.hid (show ∀ j, p1 ≤ j → (j < mf 0 ∨ mf fs.length ≤ j) → j < w.heap.size → wr.heap[j]? = w.heap[j]? from fun j h1 h2 h3 => (HSL.out.ch.block j (by omega) (fun h => by
          rcases h with h | h
          · have h5 := HFA.out h.1; omega
          · omega)).trans (HBW.out.block j h3))
        have HR1D0 := Lib.hid (show ∀ i (h : i < ds.length), wr.cell? ⟨db, i, none⟩ = some (.int .i64 ds[i]) from fun i h => (World.cell?_of_block (w := w) (a := ⟨db, _, none⟩) (HK1.out db (by have := HDA.out (by omega); omega) (.inl (by have := HDA.out (by omega); omega)) (by have := HDA.out (by omega); omega))).trans (HD0.out i h))
        have HZ1D := Lib.hid (show 0 < ds.length → ∀ j, wr.frozen? ⟨db, j, none⟩ = false from fun h j => (World.frozen?_of_block (w := w) (a := ⟨db, j, none⟩) (HK1.out db (by have := HDA.out h; omega) (.inl (by have := HDA.out h; omega)) (by have := HDA.out h; omega))).trans (HZD.out h j))
        have cn : wr.cell? ⟨w.heap.size, 4, none⟩ = some (.slice dA ds.length dC) := hbx.cell 4
        have HWZ1 := Lib.hid (show w.heap.size < wr.heap.size by have := HWS.out; omega)
        clear hbx HSL hcs HR0F0 HR0F1 HR0F2 HR0FT HZ0F IF HCH0 HBX0 HBX
        go_wp2
        clear cb cn
        generalize hW : wr = W1 at *
        clear hW
        go_loopw [3] (fun i wr => ∃ k : Nat, k ≤ ds.length ∧ i = .int .i64 k ∧ SL W1 wr db ds.length 1 k (fun _ => 0)) (fun i _ => ds.length - (intOf i).toNat)
        case atStart => exact ⟨0, Nat.zero_le _, rfl, SL.start _ _ _ _ _⟩
        case round =>
          obtain ⟨k, hk, rfl, hsl⟩ := hrel
          have HSL := Lib.hid hsl
          clear hsl
          have hcs := HCH1.out.size
          have hcz := HWZ1.out
          have hcw := HSL.out.ch.size
          have hbx := HSL.out.ch.bx HBX1.out (fun h => by
            have h6 := hk
            rcases h with h | h
            · have h5 := HDA.out h.1; omega
            · exact absurd h.2 (Nat.not_lt_zero _))
          have cb : wr.cell? ⟨w.heap.size, 4, none⟩ = some (.slice dA ds.length dC) := hbx.cell 4
          by_cases hlt : k < ds.length
          · obtain ⟨rfl, hg1, hg2⟩ := HDA.out (by omega)
            have hkl : (k : Int) < (ds.length : Int) := by omega
            have hk0 : (0 : Int) ≤ (k : Int) := by omega
            have hz : ∀ j, wr.frozen? ⟨db, j, none⟩ = false := fun j => (HSL.out.fz j).trans (HZ1D.out (by omega) j)
            have a0 : wr.cell? ⟨db, k, none⟩ = some (.int .i64 ds[k]) := (HSL.out.c _ (by omega)).trans (HR1D0.out k hlt)
            have y0 := hz (k)
            have hst := HSL.out.step (w2 := wr) hlt (by omega) (by omega) (Nat.le_refl _) (Nat.le_refl _) (Ch.refl _ _) [(.int .i64 (-7))] rfl
            rw [Nat.mul_one] at hst
            rw [← set1] at hst
            have HST := Lib.hid hst
            clear hst
            go_wp2
            go_roundw
            case rel => exact ⟨k + 1, by omega, by go_num, HST.out⟩
            case measure => simp [intOf]; omega
          · obtain rfl : k = ds.length := by omega
            have HCH2 := Lib.hid (HCH1.out.trans (R := fun j => lo ≤ j ∧ j < hi) HSL.out.ch (fun j h => h) (fun j h => by
              rcases h with h | h
              · have h5 := HDA.out h.1; omega
              · omega))
            have HBX2 := Lib.hid hbx
            have HK2 := Lib.hid (show ∀ j, p2 ≤ j → (j < mf 0 ∨ mf fs.length ≤ j) → j < w.heap.size → wr.heap[j]? = w.heap[j]? from fun j h1 h2 h3 => (HSL.out.ch.block j (by omega) (fun h => by
              rcases h with h | h
              · have h5 := HDA.out h.1; omega
              · omega)).trans (HK1.out j (by omega) h2 h3))
            have HR2B0 := Lib.hid (show ∀ i, i < bs.length → ∀ k, k < 7 → wr.cell? ⟨bb, i * 7 + k, none⟩ = some (bv i k) from fun i h k hk => (World.cell?_of_block (w := w) (a := ⟨bb, _, none⟩) (HK2.out bb (by have := HBA.out (by omega); omega) (.inl (by have := HBA.out (by omega); omega)) (by have := HBA.out (by omega); omega))).trans (HB0.out i h k hk))
            have HR2BT := Lib.hid (show ∀ i (h : i < bs.length), Seg wr (mb i) (mb (i + 1)) bs[i] (.agg #[bv i 0, bv i 1, bv i 2, bv i 3, bv i 4, bv i 5, bv i 6]) from fun i h => (HBT.out i h).keep fun j h1 h2 => HK2.out j (by have := up_to HOB.out 0 i (by omega) (by omega); omega) (.inr (by have := up_to HOB.out 0 i (by omega) (by omega); omega)) (by have := up_to HOB.out (i + 1) bs.length (by omega) (Nat.le_refl _); omega))
            have HZ2B := Lib.hid (show 0 < bs.length → ∀ j, wr.frozen? ⟨bb, j, none⟩ = false from fun h j => (World.frozen?_of_block (w := w) (a := ⟨bb, j, none⟩) (HK2.out bb (by have := HBA.out h; omega) (.inl (by have := HBA.out h; omega)) (by have := HBA.out h; omega))).trans (HZB.out h j))
            have cn : wr.cell? ⟨w.heap.size, 5, none⟩ = some (.slice bA bs.length bC) := hbx.cell 5
            have HWZ2 := Lib.hid (show w.heap.size < wr.heap.size by have := HWS.out; omega)
            clear hbx HSL hcs HR1D0 HZ1D HK1 HCH1 HBX1
            go_wp2
            clear cb cn
            generalize hW : wr = W2 at *
            clear hW
            go_loopw [4] (fun i wr => ∃ k : Nat, k ≤ bs.length ∧ i = .int .i64 k ∧ SL W2 wr bb bs.length 7 k mb) (fun i _ => bs.length - (intOf i).toNat)
            case atStart => exact ⟨0, Nat.zero_le _, rfl, SL.start _ _ _ _ _⟩
            case round =>
              obtain ⟨k, hk, rfl, hsl⟩ := hrel
              have HSL := Lib.hid hsl
              clear hsl
              have hcs := HCH2.out.size
              have hcz := HWZ2.out
              have hcw := HSL.out.ch.size
              have hbx := HSL.out.ch.bx HBX2.out (fun h => by
                have h6 := up_to HOB.out k bs.length hk (Nat.le_refl _)
                rcases h with h | h
                · have h5 := HBA.out h.1; omega
                · omega)
              have cb : wr.cell? ⟨w.heap.size, 5, none⟩ = some (.slice bA bs.length bC) := hbx.cell 5
              by_cases hlt : k < bs.length
              · obtain ⟨rfl, hg1, hg2⟩ := HBA.out (by omega)
                have hkl : (k : Int) < (bs.length : Int) := by omega
                have hk0 : (0 : Int) ≤ (k : Int) := by omega
                have hz : ∀ j, wr.frozen? ⟨bb, j, none⟩ = false := fun j => (HSL.out.fz j).trans (HZ2B.out (by omega) j)
                have a0 : wr.cell? ⟨bb, k * 7, none⟩ = some (bv k 0) := (HSL.out.c _ (by omega)).trans (HR2B0.out k hlt 0 (by omega))
                have a1 : wr.cell? ⟨bb, k * 7 + 1, none⟩ = some (bv k 1) := (HSL.out.c _ (by omega)).trans (HR2B0.out k hlt 1 (by omega))
                have a2 : wr.cell? ⟨bb, k * 7 + 2, none⟩ = some (bv k 2) := (HSL.out.c _ (by omega)).trans (HR2B0.out k hlt 2 (by omega))
                have a3 : wr.cell? ⟨bb, k * 7 + 3, none⟩ = some (bv k 3) := (HSL.out.c _ (by omega)).trans (HR2B0.out k hlt 3 (by omega))
                have a4 : wr.cell? ⟨bb, k * 7 + 4, none⟩ = some (bv k 4) := (HSL.out.c _ (by omega)).trans (HR2B0.out k hlt 4 (by omega))
                have a5 : wr.cell? ⟨bb, k * 7 + 5, none⟩ = some (bv k 5) := (HSL.out.c _ (by omega)).trans (HR2B0.out k hlt 5 (by omega))
                have a6 : wr.cell? ⟨bb, k * 7 + 6, none⟩ = some (bv k 6) := (HSL.out.c _ (by omega)).trans (HR2B0.out k hlt 6 (by omega))
                have h7 := up_to HOB.out 0 k (Nat.zero_le _) hk
                have h8 := HOB.out k hlt
                have h9 := up_to HOB.out (k + 1) bs.length (by omega) (Nat.le_refl _)
                have hsg := HR2BT.out k hlt
                obtain ⟨fA', dA', bA', nA', fC', dC', bC', nC', e0, e1, e2, e3, e4, e5, e6⟩ := (hsg.ty (Nat.le_refl _)).cells
                rw [e0] at a0 hsg
                rw [e1] at a1 hsg
                rw [e2] at a2 hsg
                rw [e3] at a3 hsg
                rw [e4] at a4 hsg
                rw [e5] at a5 hsg
                rw [e6] at a6 hsg
                have HSG := Lib.hid (hsg.keep (w2 := wr) fun j h1 h2 => HSL.out.ch.block j (by omega) (fun h => by rcases h with h | h <;> omega))
                have hm := List.getElem_mem hlt
                have hmw : mb (k + 1) ≤ wr.heap.size := by omega
                clear e0 e1 e2 e3 e4 e5 e6 hsg
                go_wp2_with (go_at_call 25; refine (IB.out bs[k] hm _ wr _ _ hmw HSG.out).mono ?_)
                first
                  | rintro _ w2 rfl hch
                  | rintro _ w2 ⟨rfl, hch⟩
                have hgm : ¬ (mb k ≤ bb ∧ bb < mb (k + 1)) := by omega
                have hgw : bb < wr.heap.size := by omega
                have hbx2 := hch.bx hbx (by omega)
                have cb2 : w2.cell? ⟨w.heap.size, 5, none⟩ = some (.slice (some ⟨bb, 0, none⟩) bs.length bC) := hbx2.cell 5
                have b0 : w2.cell? ⟨bb, k * 7, none⟩ = some _ := (hch.cell hgw hgm _).trans a0
                have y0 : w2.frozen? ⟨bb, k * 7, none⟩ = false := (hch.frozen hgw hgm _).trans (hz _)
                have b1 : w2.cell? ⟨bb, k * 7 + 1, none⟩ = some _ := (hch.cell hgw hgm _).trans a1
                have y1 : w2.frozen? ⟨bb, k * 7 + 1, none⟩ = false := (hch.frozen hgw hgm _).trans (hz _)
                have b2 : w2.cell? ⟨bb, k * 7 + 2, none⟩ = some _ := (hch.cell hgw hgm _).trans a2
                have y2 : w2.frozen? ⟨bb, k * 7 + 2, none⟩ = false := (hch.frozen hgw hgm _).trans (hz _)
                have b3 : w2.cell? ⟨bb, k * 7 + 3, none⟩ = some _ := (hch.cell hgw hgm _).trans a3
                have y3 : w2.frozen? ⟨bb, k * 7 + 3, none⟩ = false := (hch.frozen hgw hgm _).trans (hz _)
                have b4 : w2.cell? ⟨bb, k * 7 + 4, none⟩ = some _ := (hch.cell hgw hgm _).trans a4
                have y4 : w2.frozen? ⟨bb, k * 7 + 4, none⟩ = false := (hch.frozen hgw hgm _).trans (hz _)
                have b5 : w2.cell? ⟨bb, k * 7 + 5, none⟩ = some _ := (hch.cell hgw hgm _).trans a5
                have y5 : w2.frozen? ⟨bb, k * 7 + 5, none⟩ = false := (hch.frozen hgw hgm _).trans (hz _)
                have b6 : w2.cell? ⟨bb, k * 7 + 6, none⟩ = some _ := (hch.cell hgw hgm _).trans a6
                have y6 : w2.frozen? ⟨bb, k * 7 + 6, none⟩ = false := (hch.frozen hgw hgm _).trans (hz _)
                have HCC := Lib.hid hch
                clear hch hbx2 hbx cb hz a0 a1 a2 a3 a4 a5 a6
                have hst := HSL.out.step (w2 := w2) hlt (by omega) (by omega) (by omega) (by omega) HCC.out [(.int .i64 0), (.int .i64 (-7)), (.bool false), (.slice none 0 0), (.slice none 0 0), (.slice none 0 0), (.slice none 0 0)] rfl
                rw [← set7'] at hst
                have HST := Lib.hid hst
                clear hst
                go_wp2
                go_roundw
                case rel => exact ⟨k + 1, by omega, by go_num, HST.out⟩
                case measure => simp [intOf]; omega
              · obtain rfl : k = bs.length := by omega
                have HCH3 := Lib.hid (HCH2.out.trans (R := fun j => lo ≤ j ∧ j < hi) HSL.out.ch (fun j h => h) (fun j h => by
                  rcases h with h | h
                  · have h5 := HBA.out h.1; omega
                  · omega))
                have HBX3 := Lib.hid hbx
                have HK3 := Lib.hid (show ∀ j, p3 ≤ j → j < mf 0 → j < w.heap.size → wr.heap[j]? = w.heap[j]? from fun j h1 h2 h3 => (HSL.out.ch.block j (by omega) (fun h => by
                  rcases h with h | h
                  · have h5 := HBA.out h.1; omega
                  · omega)).trans (HK2.out j (by omega) (.inl h2) h3))
                have HR3N0 := Lib.hid (show ∀ i (h : i < ns.length), wr.cell? ⟨nb, i * 2, none⟩ = some (.string ns[i].1) from fun i h => (World.cell?_of_block (w := w) (a := ⟨nb, _, none⟩) (HK3.out nb (by have := HNA.out (by omega); omega) (by have := HNA.out (by omega); omega) (by have := HNA.out (by omega); omega))).trans (HN0.out i h))
                have HR3N1 := Lib.hid (show ∀ i (h : i < ns.length), wr.cell? ⟨nb, i * 2 + 1, none⟩ = some (.int .i64 ns[i].2) from fun i h => (World.cell?_of_block (w := w) (a := ⟨nb, _, none⟩) (HK3.out nb (by have := HNA.out (by omega); omega) (by have := HNA.out (by omega); omega) (by have := HNA.out (by omega); omega))).trans (HN1.out i h))
                have HZ3N := Lib.hid (show 0 < ns.length → ∀ j, wr.frozen? ⟨nb, j, none⟩ = false from fun h j => (World.frozen?_of_block (w := w) (a := ⟨nb, j, none⟩) (HK3.out nb (by have := HNA.out h; omega) (by have := HNA.out h; omega) (by have := HNA.out h; omega))).trans (HZN.out h j))
                have cn : wr.cell? ⟨w.heap.size, 6, none⟩ = some (.slice nA ns.length nC) := hbx.cell 6
                have HWZ3 := Lib.hid (show w.heap.size < wr.heap.size by have := HWS.out; omega)
                clear hbx HSL hcs HR2B0 HR2BT HZ2B HK2 IB HCH2 HBX2
                go_wp2
                clear cb cn
                generalize hW : wr = W3 at *
                clear hW
                go_loopw [5] (fun i wr => ∃ k : Nat, k ≤ ns.length ∧ i = .int .i64 k ∧ SL W3 wr nb ns.length 2 k (fun _ => 0)) (fun i _ => ns.length - (intOf i).toNat)
                case atStart => exact ⟨0, Nat.zero_le _, rfl, SL.start _ _ _ _ _⟩
                case round =>
                  obtain ⟨k, hk, rfl, hsl⟩ := hrel
                  have HSL := Lib.hid hsl
                  clear hsl
                  have hcs := HCH3.out.size
                  have hcz := HWZ3.out
                  have hcw := HSL.out.ch.size
                  have hbx := HSL.out.ch.bx HBX3.out (fun h => by
                    have h6 := hk
                    rcases h with h | h
                    · have h5 := HNA.out h.1; omega
                    · exact absurd h.2 (Nat.not_lt_zero _))
                  have cb : wr.cell? ⟨w.heap.size, 6, none⟩ = some (.slice nA ns.length nC) := hbx.cell 6
                  by_cases hlt : k < ns.length
                  · obtain ⟨rfl, hg1, hg2⟩ := HNA.out (by omega)
                    have hkl : (k : Int) < (ns.length : Int) := by omega
                    have hk0 : (0 : Int) ≤ (k : Int) := by omega
                    have hz : ∀ j, wr.frozen? ⟨nb, j, none⟩ = false := fun j => (HSL.out.fz j).trans (HZ3N.out (by omega) j)
                    have a0 : wr.cell? ⟨nb, k * 2, none⟩ = some (.string ns[k].1) := (HSL.out.c _ (by omega)).trans (HR3N0.out k hlt)
                    have a1 : wr.cell? ⟨nb, k * 2 + 1, none⟩ = some (.int .i64 ns[k].2) := (HSL.out.c _ (by omega)).trans (HR3N1.out k hlt)
                    have y0 := hz (k * 2)
                    have y1 := hz (k * 2 + 1)
                    have hst := HSL.out.step (w2 := wr) hlt (by omega) (by omega) (Nat.le_refl _) (Nat.le_refl _) (Ch.refl _ _) [(.string ⟨#[115, 112, 111, 105, 108, 116]⟩), (.int .i64 0)] rfl
                    rw [← set2] at hst
                    have HST := Lib.hid hst
                    clear hst
                    go_wp2
                    go_roundw
                    case rel => exact ⟨k + 1, by omega, by go_num, HST.out⟩
                    case measure => simp [intOf]; omega
                  · obtain rfl : k = ns.length := by omega
                    have HCH4 := Lib.hid (HCH3.out.trans (R := fun j => lo ≤ j ∧ j < hi) HSL.out.ch (fun j h => h) (fun j h => by
                      rcases h with h | h
                      · have h5 := HNA.out h.1; omega
                      · omega))
                    have HBX4 := Lib.hid hbx
                    clear hbx HSL hcs
                    go_wp2
                    go_end0
                    exact ⟨rfl, HCH4.out⟩
end Go.Proofs.Ytbdhihgokkcmfaa.Ty9
