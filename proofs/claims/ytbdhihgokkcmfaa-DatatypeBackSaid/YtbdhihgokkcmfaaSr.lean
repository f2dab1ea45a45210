/- The reference's Sized: what a type's size is. -/
import Derived.Test.YtbdhihgokkcmfaaBa
import Derived.Test.YtbdhihgokkcmfaaNm
namespace Go.Proofs.Ytbdhihgokkcmfaa.Ty9
set_option linter.unusedVariables false
set_option linter.unusedSimpArgs false
open Go.RowKit Wd

theorem mul_bound {n m : Int} {k : Nat} (h0 : 0 ≤ n) (h1 : n ≤ 256 * 256 ^ k) (m1 : 1 ≤ m) (m2 : m ≤ 256) (hk : k < 4) : 0 ≤ n * m ∧ n * m ≤ 256 * 256 ^ (k + 1) ∧ n * m ≤ 9223372036854775807 := by
  have e1 : n * m ≤ n * 256 := Int.mul_le_mul_of_nonneg_left m2 h0
  have e2 : 0 ≤ n * m := Int.mul_nonneg h0 (by omega)
  have e3 : n * m ≤ 256 * 256 ^ (k + 1) := by rw [Int.pow_succ]; omega
  refine ⟨e2, e3, Int.le_trans e3 ?_⟩
  have : k = 0 ∨ k = 1 ∨ k = 2 ∨ k = 3 := by omega
  rcases this with rfl | rfl | rfl | rfl <;> decide
def SizedOk (d : Nat) : Prop := ∀ (t : Ty) (v : Value) (w : World), TyAt w w.heap.size t v →
  Calls Try.prog 34 #[v, .int .i64 d] w fun e w' => e = .returned (.int .i64 (sz d t)) ∧ Below w.heap.size w w'

set_option maxHeartbeats 2000000 in
set_option maxRecDepth 100000 in
theorem rarray_any (d : Nat) (hd4 : d ≤ 1000) (ih : SizedOk d) (t : Ty) (v : Value) (w : World) (ht : TyAt w w.heap.size t v) :
    Calls Try.prog 53 #[v, .int .i64 (d + 1 : Nat)] w fun e w' => e = .returned (.int .i64 (arrS (sz d) t)) ∧ Below w.heap.size w w' := by
  cases ht with
  | mk c wd bb fs ds bs ns fA dA bA nA fC dC bC nC fb fo db dO bbb bo nb nO fv bv hf hd hb hn hfz hnz hnr hcap hfA hdA hbA hnA hf0 hf1 hf2 hft hd0 hb0 hbt hn0' hn1' =>
  clear hfz hnz hnr hcap hfA hnA hf0 hf1 hf2 hft hn0' hn1'
  have HBX := Lib.hid (Bx.new w 28 #[.int .i64 c, .int .i64 wd, .bool bb, .slice fA fs.length fC, .slice dA ds.length dC, .slice bA bs.length bC, .slice nA ns.length nC])
  have IH := Lib.hid ih
  have HD0 := Lib.hid hd0
  have HB0 := Lib.hid hb0
  have HBT := Lib.hid hbt
  clear ih hd0 hb0 hbt
  go_enter Try.func53, Try.ntmps53
  by_cases hbad : bb = true ∨ wd ≠ 0 ∨ fs.length + ns.length ≠ 0 ∨ bs.length ≠ 1 ∨ ds.length = 0 ∨ 4 < ds.length
  · have hz : arrS (sz d) (.mk c wd bb fs ds bs ns) = 0 := by unfold arrS; exact if_pos hbad
    rw [hz]
    clear hz HBX IH HD0 HB0 HBT
    go_wp2
    all_goals first
      | (go_ret
         exact ⟨rfl, below_new _ _⟩)
      | (exfalso
         rcases hbad with h | h | h | h | h | h <;> first | omega | (simp_all; done) | (simp_all; omega))
  · have hz : arrS (sz d) (.mk c wd bb fs ds bs ns) = arrB (sz d) ds bs := by unfold arrS; exact if_neg hbad
    rw [hz]
    clear hz
    obtain rfl : bb = false := by cases bb <;> simp_all
    obtain rfl : wd = 0 := by omega
    obtain ⟨b0, rfl⟩ : ∃ b0, bs = [b0] := List.length_eq_one_iff.mp (by omega)
    rw [show arrB (sz d) ds [b0] = dims ds (sz d b0) from rfl]
    have hsl := sz_le d b0
    have hsg := sz_ge d b0
    generalize hn0 : sz d b0 = n0 at *
    have HN0 := Lib.hid hn0
    clear hn0
    have hd1 : 1 ≤ ds.length := by omega
    have hd2 : ds.length ≤ 4 := by omega
    have hfn : fs.length + ns.length = 0 := by omega
    clear hbad
    obtain ⟨rfl, hnb⟩ := hbA (by simp)
    obtain ⟨rfl, hnd⟩ := hdA (by omega)
    have hc := fun o : Nat => (below_new w (.cells #[.int .i64 c, .int .i64 0, .bool false, .slice fA fs.length fC, .slice (some ⟨db, dO, none⟩) ds.length dC, .slice (some ⟨bbb, bo, none⟩) 1 bC, .slice nA ns.length nC] 28)).cell (p := ⟨bbb, o, none⟩) hnb
    have a0 := (hc bo).trans (HB0.out 0 (by simp) 0 (by omega))
    have a1 := (hc (bo + 1)).trans (HB0.out 0 (by simp) 1 (by omega))
    have a2 := (hc (bo + 2)).trans (HB0.out 0 (by simp) 2 (by omega))
    have a3 := (hc (bo + 3)).trans (HB0.out 0 (by simp) 3 (by omega))
    have a4 := (hc (bo + 4)).trans (HB0.out 0 (by simp) 4 (by omega))
    have a5 := (hc (bo + 5)).trans (HB0.out 0 (by simp) 5 (by omega))
    have a6 := (hc (bo + 6)).trans (HB0.out 0 (by simp) 6 (by omega))
    clear hc HBX
    have HBX := Lib.hid (Bx.new w 28 #[.int .i64 c, .int .i64 0, .bool false, .slice fA fs.length fC, .slice (some ⟨db, dO, none⟩) ds.length dC, .slice (some ⟨bbb, bo, none⟩) 1 bC, .slice nA ns.length nC])
    have HBN := Lib.hid (below_new w (.cells #[.int .i64 c, .int .i64 0, .bool false, .slice fA fs.length fC, .slice (some ⟨db, dO, none⟩) ds.length dC, .slice (some ⟨bbb, bo, none⟩) 1 bC, .slice nA ns.length nC] 28))
    go_wp2_with (go_at_call 34; refine (IH.out b0 _ _ ?_).mono ?_)
    · exact ((HBT.out 0 (by simp)).later HBN.out).up (by omega)
    rintro _ w2 he hb2
    rw [HN0.out] at he
    subst he
    have HW := Lib.hid (below_new_then hb2)
    have HBY := Lib.hid (HBX.out.later hb2 (by omega))
    clear HBX HBN hb2 HB0 HBT
    go_wp2
    go_loop [5, 6] (fun x i => ∃ (k : Nat) (n : Int), k ≤ ds.length ∧ x = .int .i64 n ∧ i = .int .i64 k ∧ dims (ds.drop k) n = dims ds n0 ∧ 0 ≤ n ∧ n ≤ 256 * 256 ^ k) (fun _ i => ds.length - (intOf i).toNat)
    case atStart => exact ⟨0, n0, Nat.zero_le _, rfl, rfl, rfl, hsg, by omega⟩
    case round =>
      clear hsl hsg
      obtain ⟨k, n, hk, rfl, rfl, hdm, hg, hl⟩ := hrel
      by_cases hlt : k < ds.length
      · have hm := mul_bound hg hl (m := ds[k]) (k := k)
        rw [List.drop_eq_getElem_cons hlt, dims] at hdm
        have HDM := Lib.hid hdm
        have HM := Lib.hid hm
        have HL := Lib.hid hl
        have c4 := HBY.out.cell 4
        have cd := (HW.out.cell (p := ⟨db, dO + k, none⟩) hnd).trans (HD0.out k hlt)
        clear hdm hm hl
        generalize ds[k] = dv at *
        by_cases hb1 : dv < 1
        · go_wp2
          go_ret
          exact ⟨by rw [← HDM.out, if_pos (.inl hb1)]; rfl, HW.out⟩
        by_cases hb2 : 256 < dv
        · go_wp2
          go_ret
          exact ⟨by rw [← HDM.out, if_pos (.inr hb2)]; rfl, HW.out⟩
        obtain ⟨m0, m1, m2⟩ := HM.out (by omega) (by omega) (by omega)
        have M1 := Lib.hid m1
        have hdm := HDM.out
        rw [if_neg (by omega)] at hdm
        have HDX := Lib.hid hdm
        clear m1 hdm HDM HM
        go_wp2
        refine ⟨⟨k + 1, n * dv, by omega, by go_num, by go_num, HDX.out, m0, M1.out⟩, by simp [intOf]; omega⟩
      · obtain rfl : k = ds.length := by omega
        rw [List.drop_length] at hdm
        have HDM := Lib.hid hdm
        clear hdm
        have c4 := HBY.out.cell 4
        go_wp2
        go_ret
        exact ⟨by rw [← HDM.out]; rfl, HW.out⟩
end Go.Proofs.Ytbdhihgokkcmfaa.Ty9
