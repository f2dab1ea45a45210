/- The reference's Same at one type held twice. -/
import Derived.Test.YtbdhihgokkcmfaaTv
import Derived.WalkLawsBesides
import Derived.StillTailTactics
import Derived.Deep.LoopGhost
import Derived.BigQuiet
namespace Go.Proofs.Ytbdhihgokkcmfaa.Ty9
set_option linter.unusedVariables false
set_option linter.unusedSimpArgs false
open Go.RowKit Wd

/-- Two boxes kept. -/
structure Two (w wr : World) (t : TypeId) (A B : Array Value) : Prop where
  be : Below w.heap.size w wr
  le : w.heap.size + 1 < wr.heap.size
  b1 : Bx wr w.heap.size t A
  b2 : Bx wr (w.heap.size + 1) t B
theorem Two.more {w wr w2 : World} {t : TypeId} {A B : Array Value} (h : Two w wr t A B) (hb : Below wr.heap.size wr w2) : Two w w2 t A B :=
  ⟨below_more h.be hb, Nat.lt_of_lt_of_le h.le hb.size, h.b1.later hb h.b1.lt, h.b2.later hb h.b2.lt⟩
theorem Two.drewN {w wr : World} {t : TypeId} {A B : Array Value} (h : Two w wr t A B) (n : Nat) : Two w (wr.drewN n) t A B := h.more (below_drewN (Below.refl _ _) n)
theorem Two.drew {w wr : World} {t : TypeId} {A B : Array Value} (h : Two w wr t A B) : Two w wr.drew t A B := h.more (Below.refl _ _).drew
theorem Two.new (w : World) (t : TypeId) (A B : Array Value) : Two w ((w.alloc (.cells A t)).alloc (.cells B t)) t A B :=
  ⟨below_more (below_new _ _) (below_new _ _), by rw [size_alloc, size_alloc]; omega, (Bx.new w t A).later (below_new _ _) (by rw [size_alloc]; omega), Bx.new2 _ _ _ _⟩

set_option maxHeartbeats 4000000 in
set_option maxRecDepth 100000 in
theorem same_refl (t : Ty) : ∀ (v u : Value) (w : World), TyAt w w.heap.size t v → TyAt w w.heap.size t u →
    Calls Try.prog 18 #[v, u] w fun e w' => e = .returned (.bool true) ∧ Below w.heap.size w w' := by
  induction t using Ty.ind with
  | h c wd b fs ds bs ns ihf ihb =>
    intro v u w ht hu
    have IF := Lib.hid ihf
    have IB := Lib.hid ihb
    clear ihf ihb
    cases ht with
    | mk _ _ _ _ _ _ _ fA dA bA nA fC dC bC nC fb fo db dO bb bo nb nO fv bv hf hd hb hn hfz hnz hnr hcap hfA hdA hbA hnA hf0 hf1 hf2 hft hd0 hb0 hbt hn0' hn1' =>
    cases hu with
    | mk _ _ _ _ _ _ _ fA2 dA2 bA2 nA2 fC2 dC2 bC2 nC2 fb2 fo2 db2 dO2 bb2 bo2 nb2 nO2 fv2 bv2 _ _ _ _ _ _ _ hcap2 hfA2 hdA2 hbA2 hnA2 gf0 gf1 gf2 gft gd0 gb0 gbt gn0 gn1 =>
    have HF0 := Lib.hid hf0
    have HF1 := Lib.hid hf1
    have HF2 := Lib.hid hf2
    have HFT := Lib.hid hft
    have HD0 := Lib.hid hd0
    have HB0 := Lib.hid hb0
    have HBT := Lib.hid hbt
    have HN0 := Lib.hid hn0'
    have HN1 := Lib.hid hn1'
    have GF0 := Lib.hid gf0
    have GF1 := Lib.hid gf1
    have GF2 := Lib.hid gf2
    have GFT := Lib.hid gft
    have GD0 := Lib.hid gd0
    have GB0 := Lib.hid gb0
    have GBT := Lib.hid gbt
    have GN0 := Lib.hid gn0
    have GN1 := Lib.hid gn1
    have HFA := Lib.hid hfA
    have HDA := Lib.hid hdA
    have HBA := Lib.hid hbA
    have HNA := Lib.hid hnA
    have HFA2 := Lib.hid hfA2
    have HDA2 := Lib.hid hdA2
    have HBA2 := Lib.hid hbA2
    have HNA2 := Lib.hid hnA2
    clear hf0 hf1 hf2 hft hd0 hb0 hbt hn0' hn1' gf0 gf1 gf2 gft gd0 gb0 gbt gn0 gn1 hfA hdA hbA hnA hfA2 hdA2 hbA2 hnA2 hfz hnz hnr hcap hcap2
    have HT := Lib.hid (Two.new w 28 #[.int .i64 c, .int .i64 wd, .bool b, .slice fA fs.length fC, .slice dA ds.length dC, .slice bA bs.length bC, .slice nA ns.length nC] #[.int .i64 c, .int .i64 wd, .bool b, .slice fA2 fs.length fC2, .slice dA2 ds.length dC2, .slice bA2 bs.length bC2, .slice nA2 ns.length nC2])
    go_enter Try.func18, Try.ntmps18
    go_wp2
    go_loopw [5] (fun i wr => ∃ k : Nat, k ≤ fs.length ∧ i = .int .i64 k ∧ Two w wr 28 #[.int .i64 c, .int .i64 wd, .bool b, .slice fA fs.length fC, .slice dA ds.length dC, .slice bA bs.length bC, .slice nA ns.length nC] #[.int .i64 c, .int .i64 wd, .bool b, .slice fA2 fs.length fC2, .slice dA2 ds.length dC2, .slice bA2 bs.length bC2, .slice nA2 ns.length nC2]) (fun i _ => fs.length - (intOf i).toNat)
    case atStart => exact ⟨0, Nat.zero_le _, rfl, HT.out⟩
    case round =>
      clear HT
      obtain ⟨k, hk, rfl, hT⟩ := hrel
      have HT := Lib.hid hT
      have c3 := hT.b1.cell 3
      have c4 := hT.b1.cell 4
      have d3 := hT.b2.cell 3
      clear hT
      by_cases hlt : k < fs.length
      · obtain ⟨rfl, hnb⟩ := HFA.out (by omega)
        obtain ⟨rfl, hnb2⟩ := HFA2.out (by omega)
        have hc := fun o : Nat => HT.out.be.cell (p := ⟨fb, o, none⟩) hnb
        have g0 := (hc (fo + k * 9)).trans (HF0.out k hlt)
        have g1 := (hc (fo + k * 9 + 1)).trans (HF1.out k hlt)
        have a0 : wr.cell? ⟨fb, fo + k * 9 + 2, none⟩ = some (fv k 0) := (hc _).trans (HF2.out k hlt 0 (by omega))
        have a1 := (hc (fo + k * 9 + 2 + 1)).trans (HF2.out k hlt 1 (by omega))
        have a2 := (hc (fo + k * 9 + 2 + 2)).trans (HF2.out k hlt 2 (by omega))
        have a3 := (hc (fo + k * 9 + 2 + 3)).trans (HF2.out k hlt 3 (by omega))
        have a4 := (hc (fo + k * 9 + 2 + 4)).trans (HF2.out k hlt 4 (by omega))
        have a5 := (hc (fo + k * 9 + 2 + 5)).trans (HF2.out k hlt 5 (by omega))
        have a6 := (hc (fo + k * 9 + 2 + 6)).trans (HF2.out k hlt 6 (by omega))
        have hc2 := fun o : Nat => HT.out.be.cell (p := ⟨fb2, o, none⟩) hnb2
        have r0 := (hc2 (fo2 + k * 9)).trans (GF0.out k hlt)
        have r1 := (hc2 (fo2 + k * 9 + 1)).trans (GF1.out k hlt)
        have b0 : wr.cell? ⟨fb2, fo2 + k * 9 + 2, none⟩ = some (fv2 k 0) := (hc2 _).trans (GF2.out k hlt 0 (by omega))
        have b1 := (hc2 (fo2 + k * 9 + 2 + 1)).trans (GF2.out k hlt 1 (by omega))
        have b2 := (hc2 (fo2 + k * 9 + 2 + 2)).trans (GF2.out k hlt 2 (by omega))
        have b3 := (hc2 (fo2 + k * 9 + 2 + 3)).trans (GF2.out k hlt 3 (by omega))
        have b4 := (hc2 (fo2 + k * 9 + 2 + 4)).trans (GF2.out k hlt 4 (by omega))
        have b5 := (hc2 (fo2 + k * 9 + 2 + 5)).trans (GF2.out k hlt 5 (by omega))
        have b6 := (hc2 (fo2 + k * 9 + 2 + 6)).trans (GF2.out k hlt 6 (by omega))
        have hm := List.getElem_mem hlt
        have HTd := Lib.hid HT.out.drew
        have HX1 := Lib.hid (((HFT.out k hlt).later HTd.out.be).up HTd.out.be.size)
        have HX2 := Lib.hid (((GFT.out k hlt).later HTd.out.be).up HTd.out.be.size)
        clear hc hc2 c4
        generalize fs[k].name = x0 at *
        generalize fs[k].pos = x1 at *
        go_wp2
        go_still_tail 41, (by kernel_rfl)
        clear a0 a1 a2 a3 a4 a5 a6 b0 b1 b2 b3 b4 b5 b6 g0 g1 r0 r1 c3 d3
        go_wp2_with (go_at_call 18; refine (IF.out fs[k] hm _ _ _ HX1.out HX2.out).mono ?_)
        first
          | rintro _ w2 rfl hb2
          | rintro _ w2 ⟨rfl, hb2⟩
        have HT2 := Lib.hid (HTd.out.more hb2)
        clear hb2
        go_wp2
        go_roundw
        case rel => exact ⟨k + 1, by omega, by go_num, HT2.out⟩
        case measure => simp [intOf]; omega
      · obtain rfl : k = fs.length := by omega
        clear d3
        have HT1 := Lib.hid HT.out
        clear HT
        go_wp2
        clear c3
        go_loopw [6] (fun i wr => ∃ k : Nat, k ≤ ds.length ∧ i = .int .i64 k ∧ Two w wr 28 #[.int .i64 c, .int .i64 wd, .bool b, .slice fA fs.length fC, .slice dA ds.length dC, .slice bA bs.length bC, .slice nA ns.length nC] #[.int .i64 c, .int .i64 wd, .bool b, .slice fA2 fs.length fC2, .slice dA2 ds.length dC2, .slice bA2 bs.length bC2, .slice nA2 ns.length nC2]) (fun i _ => ds.length - (intOf i).toNat)
        case atStart => exact ⟨0, Nat.zero_le _, rfl, HT1.out⟩
        case round =>
          clear HT1 c4
          obtain ⟨k, hk, rfl, hT⟩ := hrel
          have HT := Lib.hid hT
          have c4 := hT.b1.cell 4
          have c5 := hT.b1.cell 5
          have d4 := hT.b2.cell 4
          clear hT
          by_cases hlt : k < ds.length
          · obtain ⟨rfl, hnb⟩ := HDA.out (by omega)
            obtain ⟨rfl, hnb2⟩ := HDA2.out (by omega)
            have g0 := (HT.out.be.cell (p := ⟨db, dO + k, none⟩) hnb).trans (HD0.out k hlt)
            have r0 := (HT.out.be.cell (p := ⟨db2, dO2 + k, none⟩) hnb2).trans (GD0.out k hlt)
            generalize ds[k] = x0 at *
            have n0 : (x0 != x0) = false := by simp
            clear c5
            go_wp2
            go_quiet (fail)
            have HT2 := Lib.hid (HT.out.drewN nq)
            clear g0 r0 c4 d4
            go_wp2
            exact ⟨⟨k + 1, by omega, by go_num, HT2.out⟩, by simp [intOf]; omega⟩
          · obtain rfl : k = ds.length := by omega
            clear d4
            have HT1 := Lib.hid HT.out
            clear HT
            go_wp2
            clear c4
            go_loopw [7] (fun i wr => ∃ k : Nat, k ≤ bs.length ∧ i = .int .i64 k ∧ Two w wr 28 #[.int .i64 c, .int .i64 wd, .bool b, .slice fA fs.length fC, .slice dA ds.length dC, .slice bA bs.length bC, .slice nA ns.length nC] #[.int .i64 c, .int .i64 wd, .bool b, .slice fA2 fs.length fC2, .slice dA2 ds.length dC2, .slice bA2 bs.length bC2, .slice nA2 ns.length nC2]) (fun i _ => bs.length - (intOf i).toNat)
            case atStart => exact ⟨0, Nat.zero_le _, rfl, HT1.out⟩
            case round =>
              clear HT1 c5
              obtain ⟨k, hk, rfl, hT⟩ := hrel
              have HT := Lib.hid hT
              have c5 := hT.b1.cell 5
              have c6 := hT.b1.cell 6
              have d5 := hT.b2.cell 5
              clear hT
              by_cases hlt : k < bs.length
              · obtain ⟨rfl, hnb⟩ := HBA.out (by omega)
                obtain ⟨rfl, hnb2⟩ := HBA2.out (by omega)
                have hc := fun o : Nat => HT.out.be.cell (p := ⟨bb, o, none⟩) hnb
                have a0 : wr.cell? ⟨bb, bo + k * 7, none⟩ = some (bv k 0) := (hc _).trans (HB0.out k hlt 0 (by omega))
                have a1 := (hc (bo + k * 7 + 1)).trans (HB0.out k hlt 1 (by omega))
                have a2 := (hc (bo + k * 7 + 2)).trans (HB0.out k hlt 2 (by omega))
                have a3 := (hc (bo + k * 7 + 3)).trans (HB0.out k hlt 3 (by omega))
                have a4 := (hc (bo + k * 7 + 4)).trans (HB0.out k hlt 4 (by omega))
                have a5 := (hc (bo + k * 7 + 5)).trans (HB0.out k hlt 5 (by omega))
                have a6 := (hc (bo + k * 7 + 6)).trans (HB0.out k hlt 6 (by omega))
                have hc2 := fun o : Nat => HT.out.be.cell (p := ⟨bb2, o, none⟩) hnb2
                have b0 : wr.cell? ⟨bb2, bo2 + k * 7, none⟩ = some (bv2 k 0) := (hc2 _).trans (GB0.out k hlt 0 (by omega))
                have b1 := (hc2 (bo2 + k * 7 + 1)).trans (GB0.out k hlt 1 (by omega))
                have b2 := (hc2 (bo2 + k * 7 + 2)).trans (GB0.out k hlt 2 (by omega))
                have b3 := (hc2 (bo2 + k * 7 + 3)).trans (GB0.out k hlt 3 (by omega))
                have b4 := (hc2 (bo2 + k * 7 + 4)).trans (GB0.out k hlt 4 (by omega))
                have b5 := (hc2 (bo2 + k * 7 + 5)).trans (GB0.out k hlt 5 (by omega))
                have b6 := (hc2 (bo2 + k * 7 + 6)).trans (GB0.out k hlt 6 (by omega))
                have hm := List.getElem_mem hlt
                have HTd := Lib.hid HT.out.drew
                have HX1 := Lib.hid (((HBT.out k hlt).later HTd.out.be).up HTd.out.be.size)
                have HX2 := Lib.hid (((GBT.out k hlt).later HTd.out.be).up HTd.out.be.size)
                clear hc hc2 c6
                go_wp2
                go_still_tail 10, (by kernel_rfl)
                clear a0 a1 a2 a3 a4 a5 a6 b0 b1 b2 b3 b4 b5 b6 c5 d5
                go_wp2_with (go_at_call 18; refine (IB.out bs[k] hm _ _ _ HX1.out HX2.out).mono ?_)
                first
                  | rintro _ w2 rfl hb2
                  | rintro _ w2 ⟨rfl, hb2⟩
                have HT2 := Lib.hid (HTd.out.more hb2)
                clear hb2
                go_wp2
                go_roundw
                case rel => exact ⟨k + 1, by omega, by go_num, HT2.out⟩
                case measure => simp [intOf]; omega
              · obtain rfl : k = bs.length := by omega
                clear d5
                have HT1 := Lib.hid HT.out
                clear HT
                go_wp2
                clear c5
                go_loopw [8] (fun i wr => ∃ k : Nat, k ≤ ns.length ∧ i = .int .i64 k ∧ Two w wr 28 #[.int .i64 c, .int .i64 wd, .bool b, .slice fA fs.length fC, .slice dA ds.length dC, .slice bA bs.length bC, .slice nA ns.length nC] #[.int .i64 c, .int .i64 wd, .bool b, .slice fA2 fs.length fC2, .slice dA2 ds.length dC2, .slice bA2 bs.length bC2, .slice nA2 ns.length nC2]) (fun i _ => ns.length - (intOf i).toNat)
                case atStart => exact ⟨0, Nat.zero_le _, rfl, HT1.out⟩
                case round =>
                  clear HT1 c6
                  obtain ⟨k, hk, rfl, hT⟩ := hrel
                  have HT := Lib.hid hT
                  have c6 := hT.b1.cell 6
                  have d6 := hT.b2.cell 6
                  clear hT
                  by_cases hlt : k < ns.length
                  · obtain ⟨rfl, hnb⟩ := HNA.out (by omega)
                    obtain ⟨rfl, hnb2⟩ := HNA2.out (by omega)
                    have g0 := (HT.out.be.cell (p := ⟨nb, nO + k * 2, none⟩) hnb).trans (HN0.out k hlt)
                    have g1 := (HT.out.be.cell (p := ⟨nb, nO + k * 2 + 1, none⟩) hnb).trans (HN1.out k hlt)
                    have r0 := (HT.out.be.cell (p := ⟨nb2, nO2 + k * 2, none⟩) hnb2).trans (GN0.out k hlt)
                    have r1 := (HT.out.be.cell (p := ⟨nb2, nO2 + k * 2 + 1, none⟩) hnb2).trans (GN1.out k hlt)
                    generalize ns[k].1 = x0 at *
                    generalize ns[k].2 = x1 at *
                    have n0 : (x1 != x1) = false := by simp
                    have n1 : (x1 == x1) = true := by simp
                    go_wp2
                    go_quiet (fail)
                    have HT2 := Lib.hid (HT.out.drewN nq)
                    clear g0 g1 r0 r1 c6 d6
                    go_wp2
                    exact ⟨⟨k + 1, by omega, by go_num, HT2.out⟩, by simp [intOf]; omega⟩
                  · obtain rfl : k = ns.length := by omega
                    go_wp2
                    go_ret
                    exact ⟨rfl, HT.out.be⟩
end Go.Proofs.Ytbdhihgokkcmfaa.Ty9
