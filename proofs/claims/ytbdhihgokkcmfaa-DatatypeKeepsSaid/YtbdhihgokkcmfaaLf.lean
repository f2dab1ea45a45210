/- The law's budget of a type. -/
import Derived.Test.YtbdhihgokkcmfaaTm
import Derived.WalkLawsBesides
import Derived.StillTailTactics
import Derived.Deep.LoopGhost
namespace Go.Proofs.Ytbdhihgokkcmfaa.Ty9
set_option linter.unusedVariables false
set_option linter.unusedSimpArgs false
open Go.RowKit Wd

set_option maxHeartbeats 1000000 in
set_option maxRecDepth 100000 in
theorem left_any (t : Ty) : ∀ (n : Int) (v : Value) (w : World), -1125899906842624 ≤ n → n ≤ 9223372036854775807 → TyAt w w.heap.size t v →
    Calls Try.prog 31 #[v, .int .i64 n] w fun e w' => e = .returned (.int .i64 (t.left n)) ∧ Below w.heap.size w w' := by
  induction t using Ty.ind with
  | h c wd b fs ds bs ns ihf ihb =>
    intro n v w hn0 hn1 ht
    have IF := Lib.hid ihf
    have IB := Lib.hid ihb
    clear ihf ihb
    cases ht with
    | mk _ _ _ _ _ _ _ fA dA bA nA fC dC bC nC fb fo db dO bb bo nb nO fv bv hf hd hb hn hfz hnz hnr hcap hfA hdA hbA hnA hf0 hf1 hf2 hft hd0 hb0 hbt hn0' hn1' =>
    have hbx := fun W : World => Bx.new W 28 #[.int .i64 c, .int .i64 wd, .bool b, .slice fA fs.length fC, .slice dA ds.length dC, .slice bA bs.length bC, .slice nA ns.length nC]
    have HBX := Lib.hid hbx
    have HN := Lib.hid hn0'
    have HF0 := Lib.hid hf0
    have HF2 := Lib.hid hf2
    have HB0 := Lib.hid hb0
    clear hbx hn0' hf0 hf1 hf2 hb0 hd0 hn1'
    go_enter Try.func31, Try.ntmps31
    go_wp2
    go_loopw [1, 5] (fun q i wr => ∃ k : Nat, k ≤ ns.length ∧ q = .int .i64 (nl (ns.take k) (n - 1 - ds.length - ns.length)) ∧ i = .int .i64 k ∧ Below w.heap.size w wr ∧
        Bx wr w.heap.size 28 #[.int .i64 c, .int .i64 wd, .bool b, .slice fA fs.length fC, .slice dA ds.length dC, .slice bA bs.length bC, .slice nA ns.length nC]) (fun _ i _ => ns.length - (intOf i).toNat)
    case atStart => exact ⟨0, Nat.zero_le _, rfl, rfl, (Below.refl _ _).alloc (Nat.le_refl _) _, HBX.out w⟩
    case round =>
      obtain ⟨k, hk, rfl, rfl, hW, hB⟩ := hrel
      have c3 := hB.cell 3
      have c5 := hB.cell 5
      have c6 := hB.cell 6
      have HW := Lib.hid hW
      have HBB := Lib.hid hB
      clear hW hB
      by_cases hlt : k < ns.length
      · obtain ⟨rfl, hnb⟩ := hnA (by omega)
        have hnk := (HW.out.cell (p := ⟨nb, nO + k * 2, none⟩) hnb).trans (HN.out k hlt)
        have hsz := hnz ns[k] (List.getElem_mem hlt)
        have hsn := nl_snoc (ns.take k) ns[k] (n - 1 - ds.length - ns.length)
        rw [← List.take_succ_eq_append_getElem hlt] at hsn
        have HS := Lib.hid hsn
        clear hsn
        generalize nl (ns.take k) (n - 1 - ds.length - ns.length) = q at *
        go_wp2
        go_roundw
        case rel => exact ⟨k + 1, by omega, by rw [HS.out]; rfl, by go_num, HW.out, HBB.out⟩
        case measure => simp [intOf]; omega
      · obtain rfl : k = ns.length := by omega
        rw [List.take_length]
        generalize hq : nl ns (n - 1 - ds.length - ns.length) = q at *
        have HQ := Lib.hid hq
        clear hq
        clear c3 c5 hnA hk
        have hqb : q ≤ 9223372036854775807 := by rw [← HQ.out]; exact nl_le _ _ (by omega)
        have HQB := Lib.hid hqb
        clear hqb
        go_wp2
        go_loopw [1, 6] (fun x i w2 => ∃ (k : Nat) (y : Int), k ≤ fs.length ∧ x = .int .i64 y ∧ i = .int .i64 k ∧ y ≤ 9223372036854775807 ∧ leftf (fs.drop k) y = leftf fs q ∧ Below w.heap.size w w2 ∧
          Bx w2 w.heap.size 28 #[.int .i64 c, .int .i64 wd, .bool b, .slice fA fs.length fC, .slice dA ds.length dC, .slice bA bs.length bC, .slice nA ns.length nC]) (fun _ i _ => fs.length - (intOf i).toNat)
        case atStart => exact ⟨0, q, Nat.zero_le _, rfl, rfl, HQB.out, rfl, HW.out, HBB.out⟩
        case round =>
          clear HW HBB c6
          obtain ⟨k, y, hk, rfl, rfl, hy, hl, hW, hB⟩ := hrel
          have c3 := hB.cell 3
          have c5 := hB.cell 5
          have HL := Lib.hid hl
          have HW := Lib.hid hW
          have HBB := Lib.hid hB
          clear hl hW hB
          by_cases hlt : k < fs.length ∧ 0 < y
          · obtain ⟨hlt, hpos⟩ := hlt
            obtain ⟨rfl, hnb⟩ := hfA (by omega)
            have hc := fun o : Nat => HW.out.cell (p := ⟨fb, o, none⟩) hnb
            have g0 := (hc (fo + k * 9)).trans (HF0.out k hlt)
            have a0 : wr.cell? ⟨fb, fo + k * 9 + 2, none⟩ = some (fv k 0) := (hc _).trans (HF2.out k hlt 0 (by omega))
            have a1 := (hc (fo + k * 9 + 2 + 1)).trans (HF2.out k hlt 1 (by omega))
            have a2 := (hc (fo + k * 9 + 2 + 2)).trans (HF2.out k hlt 2 (by omega))
            have a3 := (hc (fo + k * 9 + 2 + 3)).trans (HF2.out k hlt 3 (by omega))
            have a4 := (hc (fo + k * 9 + 2 + 4)).trans (HF2.out k hlt 4 (by omega))
            have a5 := (hc (fo + k * 9 + 2 + 5)).trans (HF2.out k hlt 5 (by omega))
            have a6 := (hc (fo + k * 9 + 2 + 6)).trans (HF2.out k hlt 6 (by omega))
            have hsz := hfz fs[k] (List.getElem_mem hlt)
            clear hc
            go_wp2
            go_still_tail 17, (by kernel_rfl)
            have hm := List.getElem_mem hlt
            have HFT := Lib.hid ((hft k hlt).later HW.out)
            have hll := leftf_cons fs[k] (fs.drop (k + 1)) y
            rw [← List.drop_eq_getElem_cons hlt, if_pos hpos, HL.out] at hll
            have hlb := left_le fs[k].ty (y - 1 - ((fs[k].name.size / 50 : Nat) : Int)) (by omega)
            have HLL := Lib.hid hll
            have HLB := Lib.hid hlb
            clear a0 a1 a2 a3 a4 a5 a6 g0 hll hlb
            go_wp2_with (go_at_call 31; refine (IF.out fs[k] hm (y - 1 - ((fs[k].name.size / 50 : Nat) : Int)) _ _ ?_ ?_ ?_).mono ?_ )
            · omega
            · omega
            · exact HFT.out.drew.up HW.out.size
            rintro e w2 ⟨rfl, hb2⟩
            go_wp2
            go_roundw
            case rel => exact ⟨k + 1, _, by omega, rfl, by go_num, HLB.out, HLL.out.symm, below_then HW.out.drew HW.out.size hb2, HBB.out.drew.later hb2 HBB.out.lt⟩
            case measure => simp [intOf]; omega
          · have hq : lefts bs (leftf fs q) = (Ty.mk c wd b fs ds bs ns).left n := by rw [Ty.left, HQ.out]
            have hy' : y = leftf fs q := by
              rw [← HL.out]
              by_cases hp : 0 < y
              · rw [List.drop_eq_nil_of_le (by omega)]; rfl
              · rw [leftf_neg _ hp]
            rw [← hy'] at hq
            have HQ2 := Lib.hid hq
            have hz : k < fs.length → y ≤ 0 := by omega
            clear hq hy' hfA
            clear HQB HQ HL
            by_cases hk' : k < fs.length
            · have hyz := hz hk'
              clear hz
              go_wp2
              go_loopw [1, 7] (fun x i w3 => ∃ (j : Nat) (z : Int), j ≤ bs.length ∧ x = .int .i64 z ∧ i = .int .i64 j ∧ z ≤ 9223372036854775807 ∧ lefts (bs.drop j) z = (Ty.mk c wd b fs ds bs ns).left n ∧ Below w.heap.size w w3 ∧
                Bx w3 w.heap.size 28 #[.int .i64 c, .int .i64 wd, .bool b, .slice fA fs.length fC, .slice dA ds.length dC, .slice bA bs.length bC, .slice nA ns.length nC]) (fun _ i _ => bs.length - (intOf i).toNat)
              case atStart => exact ⟨0, y, Nat.zero_le _, rfl, rfl, hy, HQ2.out, HW.out, HBB.out⟩
              case round =>
                clear HW HBB HQ2 c3 c5 hy
                obtain ⟨j, z, hj, rfl, rfl, hy, hl, hW, hB⟩ := hrel
                have c5 := hB.cell 5
                have HL := Lib.hid hl
                have HW := Lib.hid hW
                have HBB := Lib.hid hB
                clear hl hW hB
                by_cases hlt : j < bs.length ∧ 0 < z
                · obtain ⟨hlt, hpos⟩ := hlt
                  obtain ⟨rfl, hnb⟩ := hbA (by omega)
                  have hc := fun o : Nat => HW.out.cell (p := ⟨bb, o, none⟩) hnb
                  have a0 : wr.cell? ⟨bb, bo + j * 7, none⟩ = some (bv j 0) := (hc _).trans (HB0.out j hlt 0 (by omega))
                  have a1 := (hc (bo + j * 7 + 1)).trans (HB0.out j hlt 1 (by omega))
                  have a2 := (hc (bo + j * 7 + 2)).trans (HB0.out j hlt 2 (by omega))
                  have a3 := (hc (bo + j * 7 + 3)).trans (HB0.out j hlt 3 (by omega))
                  have a4 := (hc (bo + j * 7 + 4)).trans (HB0.out j hlt 4 (by omega))
                  have a5 := (hc (bo + j * 7 + 5)).trans (HB0.out j hlt 5 (by omega))
                  have a6 := (hc (bo + j * 7 + 6)).trans (HB0.out j hlt 6 (by omega))
                  clear hc
                  have hm := List.getElem_mem hlt
                  have HFT := Lib.hid ((hbt j hlt).later HW.out)
                  have hll := lefts_cons bs[j] (bs.drop (j + 1)) z
                  rw [← List.drop_eq_getElem_cons hlt, if_pos hpos, HL.out] at hll
                  have hlb := left_le bs[j] z hy
                  have HLL := Lib.hid hll
                  have HLB := Lib.hid hlb
                  clear hll hlb
                  go_wp2_with (go_at_call 31; refine (IB.out bs[j] hm z _ _ ?_ ?_ ?_).mono ?_)
                  · omega
                  · exact HFT.out.up HW.out.size
                  rintro _ w2 rfl hb2
                  go_wp2
                  go_roundw
                  case rel => exact ⟨j + 1, _, by omega, rfl, by go_num, HLB.out, HLL.out.symm, below_then HW.out HW.out.size hb2, HBB.out.later hb2 HBB.out.lt⟩
                  case measure => simp [intOf]; omega
                · have hz' : z = (Ty.mk c wd b fs ds bs ns).left n := by
                    rw [← HL.out]
                    by_cases hp : 0 < z
                    · rw [List.drop_eq_nil_of_le (by omega)]; rfl
                    · rw [lefts_neg _ hp]
                  have HZ := Lib.hid hz'
                  clear hz' hbA
                  rcases Nat.lt_or_ge j bs.length with hk' | hk'
                  · have hz : z ≤ 0 := by omega
                    go_wp2
                    go_ret
                    exact ⟨by rw [← HZ.out]; rfl, HW.out⟩
                  · obtain rfl : j = bs.length := by omega
                    go_wp2
                    go_ret
                    exact ⟨by rw [← HZ.out]; rfl, HW.out⟩
            · obtain rfl : k = fs.length := by omega
              clear hz
              go_wp2
              go_loopw [1, 7] (fun x i w3 => ∃ (j : Nat) (z : Int), j ≤ bs.length ∧ x = .int .i64 z ∧ i = .int .i64 j ∧ z ≤ 9223372036854775807 ∧ lefts (bs.drop j) z = (Ty.mk c wd b fs ds bs ns).left n ∧ Below w.heap.size w w3 ∧
                Bx w3 w.heap.size 28 #[.int .i64 c, .int .i64 wd, .bool b, .slice fA fs.length fC, .slice dA ds.length dC, .slice bA bs.length bC, .slice nA ns.length nC]) (fun _ i _ => bs.length - (intOf i).toNat)
              case atStart => exact ⟨0, y, Nat.zero_le _, rfl, rfl, hy, HQ2.out, HW.out, HBB.out⟩
              case round =>
                clear HW HBB HQ2 c3 c5 hy
                obtain ⟨j, z, hj, rfl, rfl, hy, hl, hW, hB⟩ := hrel
                have c5 := hB.cell 5
                have HL := Lib.hid hl
                have HW := Lib.hid hW
                have HBB := Lib.hid hB
                clear hl hW hB
                by_cases hlt : j < bs.length ∧ 0 < z
                · obtain ⟨hlt, hpos⟩ := hlt
                  obtain ⟨rfl, hnb⟩ := hbA (by omega)
                  have hc := fun o : Nat => HW.out.cell (p := ⟨bb, o, none⟩) hnb
                  have a0 : wr.cell? ⟨bb, bo + j * 7, none⟩ = some (bv j 0) := (hc _).trans (HB0.out j hlt 0 (by omega))
                  have a1 := (hc (bo + j * 7 + 1)).trans (HB0.out j hlt 1 (by omega))
                  have a2 := (hc (bo + j * 7 + 2)).trans (HB0.out j hlt 2 (by omega))
                  have a3 := (hc (bo + j * 7 + 3)).trans (HB0.out j hlt 3 (by omega))
                  have a4 := (hc (bo + j * 7 + 4)).trans (HB0.out j hlt 4 (by omega))
                  have a5 := (hc (bo + j * 7 + 5)).trans (HB0.out j hlt 5 (by omega))
                  have a6 := (hc (bo + j * 7 + 6)).trans (HB0.out j hlt 6 (by omega))
                  clear hc
                  have hm := List.getElem_mem hlt
                  have HFT := Lib.hid ((hbt j hlt).later HW.out)
                  have hll := lefts_cons bs[j] (bs.drop (j + 1)) z
                  rw [← List.drop_eq_getElem_cons hlt, if_pos hpos, HL.out] at hll
                  have hlb := left_le bs[j] z hy
                  have HLL := Lib.hid hll
                  have HLB := Lib.hid hlb
                  clear hll hlb
                  go_wp2_with (go_at_call 31; refine (IB.out bs[j] hm z _ _ ?_ ?_ ?_).mono ?_)
                  · omega
                  · exact HFT.out.up HW.out.size
                  rintro _ w2 rfl hb2
                  go_wp2
                  go_roundw
                  case rel => exact ⟨j + 1, _, by omega, rfl, by go_num, HLB.out, HLL.out.symm, below_then HW.out HW.out.size hb2, HBB.out.later hb2 HBB.out.lt⟩
                  case measure => simp [intOf]; omega
                · have hz' : z = (Ty.mk c wd b fs ds bs ns).left n := by
                    rw [← HL.out]
                    by_cases hp : 0 < z
                    · rw [List.drop_eq_nil_of_le (by omega)]; rfl
                    · rw [lefts_neg _ hp]
                  have HZ := Lib.hid hz'
                  clear hz' hbA
                  rcases Nat.lt_or_ge j bs.length with hk' | hk'
                  · have hz : z ≤ 0 := by omega
                    go_wp2
                    go_ret
                    exact ⟨by rw [← HZ.out]; rfl, HW.out⟩
                  · obtain rfl : j = bs.length := by omega
                    go_wp2
                    go_ret
                    exact ⟨by rw [← HZ.out]; rfl, HW.out⟩
end Go.Proofs.Ytbdhihgokkcmfaa.Ty9
