/- lives, left, big. -/
import Derived.Test.YtbdhihgokkcmfaaTy
import Derived.Test.YtbdhihgokkcmfaaMw
import Derived.WalkLawsBesides
import Derived.StillTailTactics
import Derived.Deep.LoopGhost
import Derived.Test.YtbdhihgokkcmfaaLb
import Derived.Test.YtbdhihgokkcmfaaOf
namespace Go.Proofs.Ytbdhihgokkcmfaa.Ty9
set_option linter.unusedVariables false
set_option linter.unusedSimpArgs false
open Go.RowKit Wd

set_option maxHeartbeats 1000000 in
set_option maxRecDepth 100000 in
theorem left_any (t : Ty) : ∀ (n : Int) (v : Value) (w : World), -1125899906842624 ≤ n → n ≤ 9223372036854775807 → TyAt w w.heap.size t v →
    Calls Try.prog 31 #[v, .int .i64 n] w fun e w' => e = .returned (.int .i64 (t.left n)) ∧ Below w.heap.size w w' := by
  induction t using Ty.ind with
  | h c wd b fs ds bs ns ihf ihb =>
    intro n v w hn0 hn1 ht
    have IF := Lib.hid ihf
    have IB := Lib.hid ihb
    clear ihf ihb
    cases ht with
    | mk _ _ _ _ _ _ _ fA dA bA nA fC dC bC nC fb fo db dO bb bo nb nO fv bv hf hd hb hn hfz hnz hnr hcap hfA hdA hbA hnA hf0 hf1 hf2 hft hd0 hb0 hbt hn0' hn1' =>
    have hbx := fun W : World => Bx.new W 28 #[.int .i64 c, .int .i64 wd, .bool b, .slice fA fs.length fC, .slice dA ds.length dC, .slice bA bs.length bC, .slice nA ns.length nC]
    have HBX := Lib.hid hbx
    have HN := Lib.hid hn0'
    have HF0 := Lib.hid hf0
    have HF2 := Lib.hid hf2
    have HB0 := Lib.hid hb0
    clear hbx hn0' hf0 hf1 hf2 hb0 hd0 hn1'
    go_enter Try.func31, Try.ntmps31
    go_wp2
    go_loopw [1, 5] (fun q i wr => ∃ k : Nat, k ≤ ns.length ∧ q = .int .i64 (nl (ns.take k) (n - 1 - ds.length - ns.length)) ∧ i = .int .i64 k ∧ Below w.heap.size w wr ∧
        Bx wr w.heap.size 28 #[.int .i64 c, .int .i64 wd, .bool b, .slice fA fs.length fC, .slice dA ds.length dC, .slice bA bs.length bC, .slice nA ns.length nC]) (fun _ i _ => ns.length - (intOf i).toNat)
    case atStart => exact ⟨0, Nat.zero_le _, rfl, rfl, (Below.refl _ _).alloc (Nat.le_refl _) _, HBX.out w⟩
    case round =>
      obtain ⟨k, hk, rfl, rfl, hW, hB⟩ := hrel
      have c3 := hB.cell 3
      have c5 := hB.cell 5
      have c6 := hB.cell 6
      have HW := Lib.hid hW
      have HBB := Lib.hid hB
      clear hW hB
      by_cases hlt : k < ns.length
      · obtain ⟨rfl, hnb⟩ := hnA (by omega)
        have hnk := (HW.out.cell (p := ⟨nb, nO + k * 2, none⟩) hnb).trans (HN.out k hlt)
        have hsz := hnz ns[k] (List.getElem_mem hlt)
        have hsn := nl_snoc (ns.take k) ns[k] (n - 1 - ds.length - ns.length)
        rw [← List.take_succ_eq_append_getElem hlt] at hsn
        have HS := Lib.hid hsn
        clear hsn
        generalize nl (ns.take k) (n - 1 - ds.length - ns.length) = q at *
        go_wp2
        go_roundw
        case rel => exact ⟨k + 1, by omega, by rw [HS.out]; rfl, by go_num, HW.out, HBB.out⟩
        case measure => simp [intOf]; omega
      · obtain rfl : k = ns.length := by omega
        rw [List.take_length]
        generalize hq : nl ns (n - 1 - ds.length - ns.length) = q at *
        have HQ := Lib.hid hq
        clear hq
        clear c3 c5 hnA hk
        have hqb : q ≤ 9223372036854775807 := by rw [← HQ.out]; exact nl_le _ _ (by omega)
        have HQB := Lib.hid hqb
        clear hqb
        go_wp2
        go_loopw [1, 6] (fun x i w2 => ∃ (k : Nat) (y : Int), k ≤ fs.length ∧ x = .int .i64 y ∧ i = .int .i64 k ∧ y ≤ 9223372036854775807 ∧ leftf (fs.drop k) y = leftf fs q ∧ Below w.heap.size w w2 ∧
          Bx w2 w.heap.size 28 #[.int .i64 c, .int .i64 wd, .bool b, .slice fA fs.length fC, .slice dA ds.length dC, .slice bA bs.length bC, .slice nA ns.length nC]) (fun _ i _ => fs.length - (intOf i).toNat)
        case atStart => exact ⟨0, q, Nat.zero_le _, rfl, rfl, HQB.out, rfl, HW.out, HBB.out⟩
        case round =>
          clear HW HBB c6
          obtain ⟨k, y, hk, rfl, rfl, hy, hl, hW, hB⟩ := hrel
          have c3 := hB.cell 3
          have c5 := hB.cell 5
          have HL := Lib.hid hl
          have HW := Lib.hid hW
          have HBB := Lib.hid hB
          clear hl hW hB
          by_cases hlt : k < fs.length ∧ 0 < y
          · obtain ⟨hlt, hpos⟩ := hlt
            obtain ⟨rfl, hnb⟩ := hfA (by omega)
            have hc := fun o : Nat => HW.out.cell (p := ⟨fb, o, none⟩) hnb
            have g0 := (hc (fo + k * 9)).trans (HF0.out k hlt)
            have a0 : wr.cell? ⟨fb, fo + k * 9 + 2, none⟩ = some (fv k 0) := (hc _).trans (HF2.out k hlt 0 (by omega))
            have a1 := (hc (fo + k * 9 + 2 + 1)).trans (HF2.out k hlt 1 (by omega))
            have a2 := (hc (fo + k * 9 + 2 + 2)).trans (HF2.out k hlt 2 (by omega))
            have a3 := (hc (fo + k * 9 + 2 + 3)).trans (HF2.out k hlt 3 (by omega))
            have a4 := (hc (fo + k * 9 + 2 + 4)).trans (HF2.out k hlt 4 (by omega))
            have a5 := (hc (fo + k * 9 + 2 + 5)).trans (HF2.out k hlt 5 (by omega))
            have a6 := (hc (fo + k * 9 + 2 + 6)).trans (HF2.out k hlt 6 (by omega))
            have hsz := hfz fs[k] (List.getElem_mem hlt)
            clear hc
            go_wp2
            go_still_tail 17, (by kernel_rfl)
            have hm := List.getElem_mem hlt
            have HFT := Lib.hid ((hft k hlt).later HW.out)
            have hll := leftf_cons fs[k] (fs.drop (k + 1)) y
            rw [← List.drop_eq_getElem_cons hlt, if_pos hpos, HL.out] at hll
            have hlb := left_le fs[k].ty (y - 1 - ((fs[k].name.size / 50 : Nat) : Int)) (by omega)
            have HLL := Lib.hid hll
            have HLB := Lib.hid hlb
            clear a0 a1 a2 a3 a4 a5 a6 g0 hll hlb
            go_wp2_with (go_at_call 31; refine (IF.out fs[k] hm (y - 1 - ((fs[k].name.size / 50 : Nat) : Int)) _ _ ?_ ?_ ?_).mono ?_ )
            · omega
            · omega
            · exact HFT.out.drew.up HW.out.size
            rintro e w2 ⟨rfl, hb2⟩
            go_wp2
            go_roundw
            case rel => exact ⟨k + 1, _, by omega, rfl, by go_num, HLB.out, HLL.out.symm, below_then HW.out.drew HW.out.size hb2, HBB.out.drew.later hb2 HBB.out.lt⟩
            case measure => simp [intOf]; omega
          · have hq : lefts bs (leftf fs q) = (Ty.mk c wd b fs ds bs ns).left n := by rw [Ty.left, HQ.out]
            have hy' : y = leftf fs q := by
              rw [← HL.out]
              by_cases hp : 0 < y
              · rw [List.drop_eq_nil_of_le (by omega)]; rfl
              · rw [leftf_neg _ hp]
            rw [← hy'] at hq
            have HQ2 := Lib.hid hq
            have hz : k < fs.length → y ≤ 0 := by omega
            clear hq hy' hfA
            clear HQB HQ HL
            by_cases hk' : k < fs.length
            · have hyz := hz hk'
              clear hz
              go_wp2
              go_loopw [1, 7] (fun x i w3 => ∃ (j : Nat) (z : Int), j ≤ bs.length ∧ x = .int .i64 z ∧ i = .int .i64 j ∧ z ≤ 9223372036854775807 ∧ lefts (bs.drop j) z = (Ty.mk c wd b fs ds bs ns).left n ∧ Below w.heap.size w w3 ∧
                Bx w3 w.heap.size 28 #[.int .i64 c, .int .i64 wd, .bool b, .slice fA fs.length fC, .slice dA ds.length dC, .slice bA bs.length bC, .slice nA ns.length nC]) (fun _ i _ => bs.length - (intOf i).toNat)
              case atStart => exact ⟨0, y, Nat.zero_le _, rfl, rfl, hy, HQ2.out, HW.out, HBB.out⟩
              case round =>
                clear HW HBB HQ2 c3 c5 hy
                obtain ⟨j, z, hj, rfl, rfl, hy, hl, hW, hB⟩ := hrel
                have c5 := hB.cell 5
                have HL := Lib.hid hl
                have HW := Lib.hid hW
                have HBB := Lib.hid hB
                clear hl hW hB
                by_cases hlt : j < bs.length ∧ 0 < z
                · obtain ⟨hlt, hpos⟩ := hlt
                  obtain ⟨rfl, hnb⟩ := hbA (by omega)
                  have hc := fun o : Nat => HW.out.cell (p := ⟨bb, o, none⟩) hnb
                  have a0 : wr.cell? ⟨bb, bo + j * 7, none⟩ = some (bv j 0) := (hc _).trans (HB0.out j hlt 0 (by omega))
                  have a1 := (hc (bo + j * 7 + 1)).trans (HB0.out j hlt 1 (by omega))
                  have a2 := (hc (bo + j * 7 + 2)).trans (HB0.out j hlt 2 (by omega))
                  have a3 := (hc (bo + j * 7 + 3)).trans (HB0.out j hlt 3 (by omega))
                  have a4 := (hc (bo + j * 7 + 4)).trans (HB0.out j hlt 4 (by omega))
                  have a5 := (hc (bo + j * 7 + 5)).trans (HB0.out j hlt 5 (by omega))
                  have a6 := (hc (bo + j * 7 + 6)).trans (HB0.out j hlt 6 (by omega))
                  clear hc
                  have hm := List.getElem_mem hlt
                  have HFT := Lib.hid ((hbt j hlt).later HW.out)
                  have hll := lefts_cons bs[j] (bs.drop (j + 1)) z
                  rw [← List.drop_eq_getElem_cons hlt, if_pos hpos, HL.out] at hll
                  have hlb := left_le bs[j] z hy
                  have HLL := Lib.hid hll
                  have HLB := Lib.hid hlb
                  clear hll hlb
                  go_wp2_with (go_at_call 31; refine (IB.out bs[j] hm z _ _ ?_ ?_ ?_).mono ?_)
                  · omega
                  · exact HFT.out.up HW.out.size
                  rintro _ w2 rfl hb2
                  go_wp2
                  go_roundw
                  case rel => exact ⟨j + 1, _, by omega, rfl, by go_num, HLB.out, HLL.out.symm, below_then HW.out HW.out.size hb2, HBB.out.later hb2 HBB.out.lt⟩
                  case measure => simp [intOf]; omega
                · have hz' : z = (Ty.mk c wd b fs ds bs ns).left n := by
                    rw [← HL.out]
                    by_cases hp : 0 < z
                    · rw [List.drop_eq_nil_of_le (by omega)]; rfl
                    · rw [lefts_neg _ hp]
                  have HZ := Lib.hid hz'
                  clear hz' hbA
                  rcases Nat.lt_or_ge j bs.length with hk' | hk'
                  · have hz : z ≤ 0 := by omega
                    go_wp2
                    go_ret
                    exact ⟨by rw [← HZ.out]; rfl, HW.out⟩
                  · obtain rfl : j = bs.length := by omega
                    go_wp2
                    go_ret
                    exact ⟨by rw [← HZ.out]; rfl, HW.out⟩
            · obtain rfl : k = fs.length := by omega
              clear hz
              go_wp2
              go_loopw [1, 7] (fun x i w3 => ∃ (j : Nat) (z : Int), j ≤ bs.length ∧ x = .int .i64 z ∧ i = .int .i64 j ∧ z ≤ 9223372036854775807 ∧ lefts (bs.drop j) z = (Ty.mk c wd b fs ds bs ns).left n ∧ Below w.heap.size w w3 ∧
                Bx w3 w.heap.size 28 #[.int .i64 c, .int .i64 wd, .bool b, .slice fA fs.length fC, .slice dA ds.length dC, .slice bA bs.length bC, .slice nA ns.length nC]) (fun _ i _ => bs.length - (intOf i).toNat)
              case atStart => exact ⟨0, y, Nat.zero_le _, rfl, rfl, hy, HQ2.out, HW.out, HBB.out⟩
              case round =>
                clear HW HBB HQ2 c3 c5 hy
                obtain ⟨j, z, hj, rfl, rfl, hy, hl, hW, hB⟩ := hrel
                have c5 := hB.cell 5
                have HL := Lib.hid hl
                have HW := Lib.hid hW
                have HBB := Lib.hid hB
                clear hl hW hB
                by_cases hlt : j < bs.length ∧ 0 < z
                · obtain ⟨hlt, hpos⟩ := hlt
                  obtain ⟨rfl, hnb⟩ := hbA (by omega)
                  have hc := fun o : Nat => HW.out.cell (p := ⟨bb, o, none⟩) hnb
                  have a0 : wr.cell? ⟨bb, bo + j * 7, none⟩ = some (bv j 0) := (hc _).trans (HB0.out j hlt 0 (by omega))
                  have a1 := (hc (bo + j * 7 + 1)).trans (HB0.out j hlt 1 (by omega))
                  have a2 := (hc (bo + j * 7 + 2)).trans (HB0.out j hlt 2 (by omega))
                  have a3 := (hc (bo + j * 7 + 3)).trans (HB0.out j hlt 3 (by omega))
                  have a4 := (hc (bo + j * 7 + 4)).trans (HB0.out j hlt 4 (by omega))
                  have a5 := (hc (bo + j * 7 + 5)).trans (HB0.out j hlt 5 (by omega))
                  have a6 := (hc (bo + j * 7 + 6)).trans (HB0.out j hlt 6 (by omega))
                  clear hc
                  have hm := List.getElem_mem hlt
                  have HFT := Lib.hid ((hbt j hlt).later HW.out)
                  have hll := lefts_cons bs[j] (bs.drop (j + 1)) z
                  rw [← List.drop_eq_getElem_cons hlt, if_pos hpos, HL.out] at hll
                  have hlb := left_le bs[j] z hy
                  have HLL := Lib.hid hll
                  have HLB := Lib.hid hlb
                  clear hll hlb
                  go_wp2_with (go_at_call 31; refine (IB.out bs[j] hm z _ _ ?_ ?_ ?_).mono ?_)
                  · omega
                  · exact HFT.out.up HW.out.size
                  rintro _ w2 rfl hb2
                  go_wp2
                  go_roundw
                  case rel => exact ⟨j + 1, _, by omega, rfl, by go_num, HLB.out, HLL.out.symm, below_then HW.out HW.out.size hb2, HBB.out.later hb2 HBB.out.lt⟩
                  case measure => simp [intOf]; omega
                · have hz' : z = (Ty.mk c wd b fs ds bs ns).left n := by
                    rw [← HL.out]
                    by_cases hp : 0 < z
                    · rw [List.drop_eq_nil_of_le (by omega)]; rfl
                    · rw [lefts_neg _ hp]
                  have HZ := Lib.hid hz'
                  clear hz' hbA
                  rcases Nat.lt_or_ge j bs.length with hk' | hk'
                  · have hz : z ≤ 0 := by omega
                    go_wp2
                    go_ret
                    exact ⟨by rw [← HZ.out]; rfl, HW.out⟩
                  · obtain rfl : j = bs.length := by omega
                    go_wp2
                    go_ret
                    exact ⟨by rw [← HZ.out]; rfl, HW.out⟩

def numT (c w : Int) : Ty := .mk c w false [] [] [] []
def pairT (w : Int) : Ty := .mk 5 w false [.mk ⟨#[97]⟩ 0 (numT 2 2), .mk ⟨#[98]⟩ 4 (numT 4 4)] [] [] []
theorem numT_at {w : World} {B : Nat} (c k : Int) : TyAt w B (numT c k) (.agg #[.int .i64 c, .int .i64 k, .bool false, .slice none 0 0, .slice none 0 0, .slice none 0 0, .slice none 0 0]) :=
  .mk c k false [] [] [] [] none none none none 0 0 0 0 0 0 0 0 0 0 0 0 (fun _ _ => default) (fun _ _ => default) (Nat.zero_le _) (Nat.zero_le _) (Nat.zero_le _) (Nat.zero_le _)
    (fun f hf => absurd hf (List.not_mem_nil)) (fun f hf => absurd hf (List.not_mem_nil)) (fun f hf => absurd hf (List.not_mem_nil)) ⟨Nat.le_refl _, Nat.le_refl _, Nat.le_refl _, Nat.le_refl _⟩
    (fun h => absurd h (Nat.lt_irrefl _)) (fun h => absurd h (Nat.lt_irrefl _)) (fun h => absurd h (Nat.lt_irrefl _)) (fun h => absurd h (Nat.lt_irrefl _))
    (fun i h => absurd h (Nat.not_lt_zero _)) (fun i h => absurd h (Nat.not_lt_zero _)) (fun i h => absurd h (Nat.not_lt_zero _)) (fun i h => absurd h (Nat.not_lt_zero _)) (fun i h => absurd h (Nat.not_lt_zero _)) (fun i h => absurd h (Nat.not_lt_zero _))
    (fun i h => absurd h (Nat.not_lt_zero _)) (fun i h => absurd h (Nat.not_lt_zero _)) (fun i h => absurd h (Nat.not_lt_zero _))
def pairCells : Array Value := #[.string ⟨#[97]⟩, .int .i64 0, .int .i64 2, .int .i64 2, .bool false, .slice none 0 0, .slice none 0 0, .slice none 0 0, .slice none 0 0,
  .string ⟨#[98]⟩, .int .i64 4, .int .i64 4, .int .i64 4, .bool false, .slice none 0 0, .slice none 0 0, .slice none 0 0, .slice none 0 0]
theorem pairT_at {w : World} {B g : Nat} (hg : g < B) (k : Int) (hb : Bx w g 66 pairCells) : TyAt w B (pairT k) (.agg #[.int .i64 5, .int .i64 k, .bool false, .slice (some ⟨g, 0, none⟩) 2 2, .slice none 0 0, .slice none 0 0, .slice none 0 0]) := by
  refine .mk 5 k false _ [] [] [] (some ⟨g, 0, none⟩) none none none 2 0 0 0 g 0 0 0 0 0 0 0 (fun i j => pairCells[i * 9 + 2 + j]!) (fun _ _ => default) (by simp) (Nat.zero_le _) (Nat.zero_le _) (Nat.zero_le _)
    ?_ (fun f hf => absurd hf (List.not_mem_nil)) (fun f hf => absurd hf (List.not_mem_nil)) ⟨Nat.le_refl _, Nat.le_refl _, Nat.le_refl _, Nat.le_refl _⟩
    (fun _ => ⟨rfl, hg⟩) (fun h => absurd h (Nat.lt_irrefl _)) (fun h => absurd h (Nat.lt_irrefl _)) (fun h => absurd h (Nat.lt_irrefl _)) ?_ ?_ ?_ ?_
    (fun i h => absurd h (Nat.not_lt_zero _)) (fun i h => absurd h (Nat.not_lt_zero _)) (fun i h => absurd h (Nat.not_lt_zero _)) (fun i h => absurd h (Nat.not_lt_zero _)) (fun i h => absurd h (Nat.not_lt_zero _))
  · intro f hf
    simp only [List.mem_cons, List.not_mem_nil, or_false] at hf
    rcases hf with rfl | rfl <;> decide
  · intro i hi
    match i, hi with
    | 0, _ => exact hb.cell 0
    | 1, _ => exact hb.cell 9
  · intro i hi
    match i, hi with
    | 0, _ => exact hb.cell 1
    | 1, _ => exact hb.cell 10
  · intro i hi j hj
    match i, hi with
    | 0, _ =>
      match j, hj with
      | 0, _ => exact hb.cell 2
      | 1, _ => exact hb.cell 3
      | 2, _ => exact hb.cell 4
      | 3, _ => exact hb.cell 5
      | 4, _ => exact hb.cell 6
      | 5, _ => exact hb.cell 7
      | 6, _ => exact hb.cell 8
    | 1, _ =>
      match j, hj with
      | 0, _ => exact hb.cell 11
      | 1, _ => exact hb.cell 12
      | 2, _ => exact hb.cell 13
      | 3, _ => exact hb.cell 14
      | 4, _ => exact hb.cell 15
      | 5, _ => exact hb.cell 16
      | 6, _ => exact hb.cell 17
  · intro i hi
    match i, hi with
    | 0, _ => exact numT_at 2 2
    | 1, _ => exact numT_at 4 4

theorem sz_int3 : sz 4 (numT 1 3) = 3 := by
  rw [sz_num (by decide) (by decide) (by decide)]; rfl
theorem sz_u2 : sz 3 (numT 2 2) = 2 := by
  rw [sz_num (by decide) (by decide) (by decide)]; rfl
theorem sz_c4 : sz 3 (numT 4 4) = 8 := by
  rw [sz_num (by decide) (by decide) (by decide)]; rfl
theorem name_one (c : UInt8) (h1 : c ≠ 46) (h2 : c ≠ 47) (h3 : c ≠ 0) : nameB ⟨#[c]⟩ = true := by
  have hl : (⟨#[c]⟩ : ByteArray).toList = [c] := by rw [Go.Lib.toList_data]
  have hb : ∀ x : UInt8, c ≠ x → hasB ⟨#[c]⟩ x = false := by
    intro x hx
    refine hasB_no _ _ fun j hj => ?_
    have hj1 : j < 1 := hj
    obtain rfl : j = 0 := by omega
    show some c ≠ some x
    intro e
    exact hx (Option.some.inj e)
  rw [nameB_iff, hl]
  refine ⟨Nat.le_refl 1, show 1 ≤ 64 by omega, fun e => h1 ?_, fun e => by simp at e, hb 47 h2, hb 0 h3⟩
  simpa using e
theorem name_a : nameB ⟨#[97]⟩ = true := name_one 97 (by decide) (by decide) (by decide)
theorem name_b : nameB ⟨#[98]⟩ = true := name_one 98 (by decide) (by decide) (by decide)
theorem ab_ne : (⟨#[97]⟩ : ByteArray) ≠ ⟨#[98]⟩ := by decide
theorem pair_flds (w : Int) : flds (sz 3) w [.mk ⟨#[97]⟩ 0 (numT 2 2), .mk ⟨#[98]⟩ 4 (numT 4 4)] [] 0 = if w < 12 then 0 else w := by
  rw [flds]
  by_cases h : w < 2
  · rw [if_pos (by show _ ∨ _ ∨ _ ∨ w < 0 + sz 3 (numT 2 2) ∨ _; rw [sz_u2]; omega), if_pos (by omega)]
  · rw [if_neg, flds]
    · by_cases h2 : w < 12
      · rw [if_pos (by show _ ∨ _ ∨ _ ∨ w < 4 + sz 3 (numT 4 4) ∨ _; rw [sz_c4]; omega), if_pos h2]
      · rw [if_neg, flds, if_neg h2]
        show ¬(sz 3 (numT 4 4) = 0 ∨ nameB ⟨#[98]⟩ = false ∨ (4 : Int) < 0 + sz 3 (numT 2 2) ∨ w < 4 + sz 3 (numT 4 4) ∨ (⟨#[98]⟩ : ByteArray) ∈ [(⟨#[97]⟩ : ByteArray)])
        rw [sz_c4, sz_u2, name_b]
        rintro (x | x | x | x | x)
        · omega
        · cases x
        · omega
        · omega
        · exact ab_ne (List.mem_singleton.mp x).symm
    · show ¬(sz 3 (numT 2 2) = 0 ∨ nameB ⟨#[97]⟩ = false ∨ (0 : Int) < 0 ∨ w < 0 + sz 3 (numT 2 2) ∨ (⟨#[97]⟩ : ByteArray) ∈ ([] : List ByteArray))
      rw [sz_u2, name_a]
      rintro (x | x | x | x | x)
      · omega
      · cases x
      · omega
      · omega
      · exact absurd x (List.not_mem_nil)
theorem sz_pair (w : Int) (h1 : 1 ≤ w) (h2 : w ≤ 256) : sz 4 (pairT w) = if w < 12 then 0 else w := by
  rw [sz, if_pos (show (pairT w).c = 5 from rfl)]
  have e : compS (sz 3) (pairT w) = flds (sz 3) w [.mk ⟨#[97]⟩ 0 (numT 2 2), .mk ⟨#[98]⟩ 4 (numT 4 4)] [] 0 := by
    unfold compS
    rw [if_neg]
    · rfl
    show ¬(false = true ∨ 0 + 0 + 0 ≠ 0 ∨ w < 1 ∨ 256 < w ∨ 2 = 0 ∨ 16 < 2)
    rintro (x | x | x | x | x | x)
    · cases x
    all_goals omega
  rw [e, pair_flds]
  unfold cap256
  split <;> split <;> omega
theorem pls_pair (w : Int) : pls (pairT w) 0 = [⟨0, 2, 2, false⟩, ⟨4, 3, 4, false⟩, ⟨8, 3, 4, false⟩] := by
  rw [pls_comp rfl]
  show plf [.mk ⟨#[97]⟩ 0 (numT 2 2), .mk ⟨#[98]⟩ 4 (numT 4 4)] 0 = _
  rw [plf_cons, plf_cons, plf, num_len (by decide) (by decide) (by decide), num_len (by decide) (by decide) (by decide)]
  rfl
theorem lb_int3 : lb (numT 1 3) = [1, 3, 0] := by
  rw [lb_num (by decide) (by decide) (by decide)]; rfl

set_option maxHeartbeats 2000000 in
set_option maxRecDepth 100000 in
theorem pair_any (k : Int) (w : World) :
    Calls Try.prog 32 #[.int .i64 k] w fun e w' => ∃ v, e = .returned v ∧ TyAt w' w'.heap.size (pairT k) v ∧ Below w.heap.size w w' := by
  go_enter Try.func32, Try.ntmps32
  go_wp2
  refine bodyPost_ret (v := .agg #[.int .i64 5, .int .i64 k, .bool false, .slice (some ⟨w.heap.size + 1, 0, none⟩) 2 2, .slice none 0 0, .slice none 0 0, .slice none 0 0]) (by simp [results, Try.results32, go_sem]) rfl ⟨_, rfl, ?_, ?_⟩
  · exact pairT_at (by simp) k (Bx.new2 _ _ _ _)
  · exact below_more (below_new _ _) (below_new _ _)

set_option maxHeartbeats 4000000 in
set_option maxRecDepth 100000 in
theorem lives_any (w : World) : Calls Try.prog 13 #[] w fun e w' => e = .returned (.bool true) ∧ Below w.heap.size w w' := by
  go_enter Try.func13, Try.ntmps13
  go_wp2_with (go_at_call 32; refine (pair_any 12 w).mono ?_)
  rintro _ w1 ⟨v1, rfl, ht1, hb1⟩
  have hz12 : sz 4 (pairT 12) = 12 := by rw [sz_pair 12 (by omega) (by omega)]; rfl
  have HZ12 := Lib.hid hz12
  have hs12 : sizeV (pairT 12) = .tuple #[.int .i64 12, .int .i64 0] := by rw [sizeV, hz12]; rfl
  have HS12 := Lib.hid hs12
  clear hz12 hs12
  have HB1 := Lib.hid hb1
  have HT1 := Lib.hid ht1
  clear hb1 ht1
  go_wp2_with (go_at_call 15; refine (psizeV_any (pairT 12) v1 w1 HT1.out).mono ?_)
  rintro _ w2 ⟨he, hb2⟩
  rw [HS12.out] at he
  subst he
  have HB2 := Lib.hid (below_more HB1.out hb2)
  clear hb2 HB1 HT1 HS12
  go_wp2_with (go_at_call 32; refine (pair_any 12 w2).mono ?_)
  rintro _ w3 ⟨v3, rfl, ht3, hb3⟩
  have HB3 := Lib.hid (below_more HB2.out hb3)
  have HT3 := Lib.hid ht3
  have hnz : sz 4 (pairT 12) ≠ 0 := by rw [HZ12.out]; decide
  have HNZ := Lib.hid hnz
  clear hb3 ht3 HB2 hnz HZ12
  go_wp2_with (go_at_call 19; refine (places_yes (pairT 12) v3 w3 HT3.out HNZ.out).mono ?_)
  rintro _ w4 ⟨V, rfl, ho, hb4⟩
  rw [pls_pair] at ho
  obtain ⟨g, cap, hV, hg1, hg2⟩ := ho.form (by show 0 < 3; omega)
  have hV' : V = .slice (some ⟨g, 0, none⟩) 3 cap := hV
  subst hV'
  have k8 : w4.cell? ⟨g, 8, none⟩ = some (.int .i64 8) := (ho.cellAt 8 (by show 8 < 3 * 4; omega))
  have k9 : w4.cell? ⟨g, 9, none⟩ = some (.int .i64 3) := (ho.cellAt 9 (by show 9 < 3 * 4; omega))
  have k10 : w4.cell? ⟨g, 10, none⟩ = some (.int .i64 4) := (ho.cellAt 10 (by show 10 < 3 * 4; omega))
  have k11 : w4.cell? ⟨g, 11, none⟩ = some (.bool false) := (ho.cellAt 11 (by show 11 < 3 * 4; omega))
  have HB4 := Lib.hid (below_more HB3.out hb4)
  have K8 := Lib.hid k8
  have K9 := Lib.hid k9
  have K10 := Lib.hid k10
  have K11 := Lib.hid k11
  clear ho hb4 hV hg1 HB3 HT3 HNZ k8 k9 k10 k11
  have hz3 : sz 4 (numT 1 3) ≠ 0 := by rw [sz_int3]; decide
  have HZ3 := Lib.hid hz3
  clear hz3
  go_wp2_with (go_at_call 21; refine (bytes_yes (numT 1 3) _ w4 (numT_at 1 3) HZ3.out).mono ?_)
  rintro _ w5 ⟨V5, rfl, ho5, hl5, hb5⟩
  rw [lb_int3] at ho5
  obtain ⟨g5, cap5, hV, hg51, hg52⟩ := ho5.form (by show 0 < 3; omega)
  have hV' : V5 = .slice (some ⟨g5, 0, none⟩) 3 cap5 := hV
  subst hV'
  have q0 : w5.cell? ⟨g5, 0, none⟩ = some (.int .u8 1) := (ho5.cellAt 0 (by show 0 < 3 * 1; omega))
  have q1 : w5.cell? ⟨g5, 1, none⟩ = some (.int .u8 3) := (ho5.cellAt 1 (by show 1 < 3 * 1; omega))
  have q2 : w5.cell? ⟨g5, 2, none⟩ = some (.int .u8 0) := (ho5.cellAt 2 (by show 2 < 3 * 1; omega))
  have k8 := (hb5.cell (p := ⟨g, 8, none⟩) hg2).trans K8.out
  have k9 := (hb5.cell (p := ⟨g, 9, none⟩) hg2).trans K9.out
  have k10 := (hb5.cell (p := ⟨g, 10, none⟩) hg2).trans K10.out
  have k11 := (hb5.cell (p := ⟨g, 11, none⟩) hg2).trans K11.out
  have HB5 := Lib.hid (below_more HB4.out hb5)
  have HY5 := Lib.hid (Byt.of_own (bs := [1, 3, 0]) ho5 (fun x hx => hl5 x (by rw [lb_int3]; exact hx)))
  clear ho5 hb5 hV hg51 HB4 hl5 K8 K9 K10 K11
  have hcv := conv_bytes HY5.out cap5
  rw [show strOf [1, 3, 0] = ⟨#[1, 3, 0]⟩ from rfl] at hcv
  go_wp2_with (go_at_call 32; refine (pair_any 8 _).mono ?_)
  rintro _ w6 ⟨v6, rfl, ht6, hb6⟩
  have HB6 := Lib.hid (below_more HB5.out hb6)
  have HT6 := Lib.hid ht6
  have hz8 : errV (pairT 8) = 15 := if_pos (by rw [sz_pair 8 (by omega) (by omega)]; rfl)
  have HZ8 := Lib.hid hz8
  clear hb6 ht6 HB5 hz8 hcv q0 q1 q2 k8 k9 k10 k11 HY5
  go_wp2_with (go_at_call 17; refine (check_any (pairT 8) v6 w6 HT6.out).mono ?_)
  rintro _ w7 ⟨he, hb7⟩
  rw [HZ8.out] at he
  subst he
  have HB7 := Lib.hid (below_more HB6.out hb7)
  clear hb7 HB6 HT6 HZ8
  go_wp2
  go_ret
  exact ⟨rfl, HB7.out⟩

set_option maxHeartbeats 2000000 in
set_option maxRecDepth 100000 in
theorem big_any (t : Ty) (v : Value) (w : World) (ht : TyAt w w.heap.size t v) :
    Calls Try.prog 12 #[v] w fun e w' => e = .returned (.bool (decide (t.left 2000 ≤ 0))) ∧ Below w.heap.size w w' := by
  obtain ⟨fA, dA, bA, nA, fC, dC, bC, nC, rfl⟩ := ht.shape
  have HT := Lib.hid ((ht.later (below_new w (.cells #[.int .i64 t.c, .int .i64 t.w, .bool t.big, .slice fA t.fs.length fC, .slice dA t.ds.length dC, .slice bA t.bs.length bC, .slice nA t.ns.length nC] 28))).up (below_new w (.cells #[.int .i64 t.c, .int .i64 t.w, .bool t.big, .slice fA t.fs.length fC, .slice dA t.ds.length dC, .slice bA t.bs.length bC, .slice nA t.ns.length nC] 28)).size)
  generalize hq : t.left 2000 = q
  have HQ := Lib.hid hq
  clear ht hq
  go_enter Try.func12, Try.ntmps12
  go_wp2_with (go_at_call 31; refine (left_any t 2000 _ _ (by omega) (by omega) ?_).mono ?_)
  · exact HT.out
  rintro _ w2 ⟨he, hb2⟩
  rw [HQ.out] at he
  subst he
  have HW := Lib.hid (below_more (below_new _ _) hb2)
  clear hb2
  go_wp2
  go_ret
  exact ⟨rfl, HW.out⟩
end Go.Proofs.Ytbdhihgokkcmfaa.Ty9
