/- The program's array. -/
import Derived.Test.YtbdhihgokkcmfaaSs
namespace Go.Proofs.Ytbdhihgokkcmfaa.Ty9
set_option linter.unusedVariables false
set_option linter.unusedSimpArgs false
open Go.RowKit Wd

def PSizeOk (d : Nat) : Prop := ∀ (t : Ty) (v : Value) (w : World), TyAt w w.heap.size t v →
  Calls Try.prog 33 #[v, .int .i64 d] w fun e w' => e = .returned (.int .i64 (sz d t)) ∧ Below w.heap.size w w'

set_option maxHeartbeats 2000000 in
set_option maxRecDepth 100000 in
theorem parray_any (d : Nat) (hd4 : d ≤ 1000) (ih : PSizeOk d) (t : Ty) (v : Value) (w : World) (ht : TyAt w w.heap.size t v) (hbig : t.big = false) :
    Calls Try.prog 50 #[v, .int .i64 (d + 1 : Nat)] w fun e w' => e = .returned (.int .i64 (arrS (sz d) t)) ∧ Below w.heap.size w w' := by
  have HTA := Lib.hid ht
  revert hbig HTA
  cases ht with
  | mk c wd bb fs ds bs ns fA dA bA nA fC dC bC nC fb fo db dO bbb bo nb nO fv bv hf hd hb hn hfz hnz hnr hcap hfA hdA hbA hnA hf0 hf1 hf2 hft hd0 hb0 hbt hn0' hn1' =>
  clear hfz hnz hnr hcap hfA hnA hf0 hf1 hf2 hft hn0' hn1'
  intro hbig HTA
  obtain rfl : bb = false := hbig
  have HBX := Lib.hid (Bx.new w 28 #[.int .i64 c, .int .i64 wd, .bool false, .slice fA fs.length fC, .slice dA ds.length dC, .slice bA bs.length bC, .slice nA ns.length nC])
  have HBN := Lib.hid (below_new w (.cells #[.int .i64 c, .int .i64 wd, .bool false, .slice fA fs.length fC, .slice dA ds.length dC, .slice bA bs.length bC, .slice nA ns.length nC] 28))
  have IH := Lib.hid ih
  have HD0 := Lib.hid hd0
  have HB0 := Lib.hid hb0
  have HBT := Lib.hid hbt
  clear ih hd0 hb0 hbt
  generalize hR : arrS (sz d) (.mk c wd false fs ds bs ns) = R
  have HR := Lib.hid hR
  clear hR
  go_enter Try.func50, Try.ntmps50
  go_wp2_with (go_at_call 48; refine (bare_any (.mk c wd false fs ds bs ns) _ _ _ _ _ _ ?_).mono ?_)
  · exact (HTA.out.later HBN.out).up HBN.out.size
  rintro _ w2 ⟨rfl, hb2⟩
  have HW2 := Lib.hid (below_more HBN.out hb2)
  have HBX2 := Lib.hid (HBX.out.later hb2 (by simp))
  clear hb2 HBX HBN
  have c1 := HBX2.out.cell 1
  have c4 := HBX2.out.cell 4
  have c5 := HBX2.out.cell 5
  by_cases hbad : wd ≠ 0 ∨ fs.length + ns.length ≠ 0 ∨ bs.length ≠ 1 ∨ ds.length = 0 ∨ 4 < ds.length
  · have hz : arrS (sz d) (.mk c wd false fs ds bs ns) = 0 := by unfold arrS; exact if_pos (.inr hbad)
    have HZ := Lib.hid (hz.symm.trans HR.out)
    clear hz HR IH HD0 HB0 HBT
    by_cases hbr : fs.length = 0 ∧ ns.length = 0
    · rw [show (decide ((Ty.mk c wd false fs ds bs ns).fs.length = 0)) = true from decide_eq_true hbr.1, show (decide ((Ty.mk c wd false fs ds bs ns).ns.length = 0)) = true from decide_eq_true hbr.2]
      go_wp2
      all_goals first
        | (go_ret
           exact ⟨by first | rfl | (rw [← HZ.out]; rfl), HW2.out⟩)
        | (exfalso
           rcases hbad with h | h | h | h | h <;> first | omega | (simp_all; done) | (simp_all; omega))
    · have hff : ((false || decide ((Ty.mk c wd false fs ds bs ns).fs.length = 0)) && (true || decide ((Ty.mk c wd false fs ds bs ns).ds.length = 0)) && (true || decide ((Ty.mk c wd false fs ds bs ns).bs.length = 0)) && (false || decide ((Ty.mk c wd false fs ds bs ns).ns.length = 0))) = false := by
        have hor : fs.length ≠ 0 ∨ ns.length ≠ 0 := by omega
        rcases hor with h | h
        · rw [show (decide ((Ty.mk c wd false fs ds bs ns).fs.length = 0)) = false from decide_eq_false h]; rfl
        · rw [show (decide ((Ty.mk c wd false fs ds bs ns).ns.length = 0)) = false from decide_eq_false h]
          cases (decide ((Ty.mk c wd false fs ds bs ns).fs.length = 0)) <;> rfl
      rw [hff]
      go_wp2
      all_goals
        go_ret
        exact ⟨by first | rfl | (rw [← HZ.out]; rfl), HW2.out⟩
  · have hz : arrS (sz d) (.mk c wd false fs ds bs ns) = arrB (sz d) ds bs := by
      unfold arrS
      exact if_neg (fun h => by
        rcases h with h | h
        · cases h
        · exact hbad h)
    have hzz := hz.symm.trans HR.out
    clear HR hz
    obtain rfl : wd = 0 := by omega
    obtain ⟨b0, rfl⟩ : ∃ b0, bs = [b0] := List.length_eq_one_iff.mp (by omega)
    rw [show arrB (sz d) ds [b0] = dims ds (sz d b0) from rfl] at hzz
    have hsl := sz_le d b0
    have hsg := sz_ge d b0
    generalize hn0 : sz d b0 = n0 at *
    have HN0 := Lib.hid hn0
    have HZ := Lib.hid hzz
    clear hn0 hzz
    have hd1 : 1 ≤ ds.length := by omega
    have hd2 : ds.length ≤ 4 := by omega
    have hdz : ((ds.length : Int) == 0) = false := by rw [beq_eq_false_iff_ne]; omega
    rw [show (decide ((Ty.mk c 0 false fs ds [b0] ns).fs.length = 0)) = true from decide_eq_true (show fs.length = 0 by omega), show (decide ((Ty.mk c 0 false fs ds [b0] ns).ns.length = 0)) = true from decide_eq_true (show ns.length = 0 by omega)]
    clear hbad
    obtain ⟨rfl, hnb⟩ := hbA (by simp)
    obtain ⟨rfl, hnd⟩ := hdA (by omega)
    have hc := fun o : Nat => HW2.out.cell (p := ⟨bbb, o, none⟩) hnb
    have a0 := (hc bo).trans (HB0.out 0 (by simp) 0 (by omega))
    have a1 := (hc (bo + 1)).trans (HB0.out 0 (by simp) 1 (by omega))
    have a2 := (hc (bo + 2)).trans (HB0.out 0 (by simp) 2 (by omega))
    have a3 := (hc (bo + 3)).trans (HB0.out 0 (by simp) 3 (by omega))
    have a4 := (hc (bo + 4)).trans (HB0.out 0 (by simp) 4 (by omega))
    have a5 := (hc (bo + 5)).trans (HB0.out 0 (by simp) 5 (by omega))
    have a6 := (hc (bo + 6)).trans (HB0.out 0 (by simp) 6 (by omega))
    clear hc
    have hbt := (HBT.out 0 (by simp)).later HW2.out
    have HBT1 := Lib.hid (hbt.up HW2.out.size)
    clear hbt HBT HB0
    go_wp2_with (go_at_call 33; refine (IH.out b0 _ _ ?_).mono ?_)
    · exact HBT1.out
    rintro _ w3 ⟨he, hb3⟩
    rw [HN0.out] at he
    subst he
    have HW3 := Lib.hid (below_then HW2.out HW2.out.size hb3)
    have HB3 := Lib.hid (HBX2.out.later hb3 HBX2.out.lt)
    have d4 := HB3.out.cell 4
    clear hb3 HBT1 HBX2 HTA c1 c4 c5 a0 a1 a2 a3 a4 a5 a6
    go_wp2
    go_loop [5, 44] (fun x i => ∃ (k : Nat) (n : Int), k ≤ ds.length ∧ x = .int .i64 n ∧ i = .int .i64 k ∧ dims (ds.drop k) n = R ∧ 0 ≤ n ∧ n ≤ 256 * 256 ^ k) (fun _ i => ds.length - (intOf i).toNat)
    case atStart => exact ⟨0, n0, Nat.zero_le _, rfl, rfl, HZ.out, hsg, by omega⟩
    case round =>
      clear hsl hsg
      obtain ⟨k, n, hk, rfl, rfl, hdm, hg, hl⟩ := hrel
      by_cases hlt : k < ds.length
      · have hm := mul_bound hg hl (m := ds[k]) (k := k)
        rw [List.drop_eq_getElem_cons hlt, dims] at hdm
        have HDM := Lib.hid hdm
        have HM := Lib.hid hm
        have HL := Lib.hid hl
        have cd := (HW3.out.cell (p := ⟨db, dO + k, none⟩) hnd).trans (HD0.out k hlt)
        clear hdm hm hl
        generalize ds[k] = dv at *
        by_cases hb1 : dv < 1
        · go_wp2
          go_ret
          exact ⟨by rw [← HDM.out, if_pos (.inl hb1)]; rfl, HW3.out⟩
        by_cases hb2 : 256 < dv
        · go_wp2
          go_ret
          exact ⟨by rw [← HDM.out, if_pos (.inr hb2)]; rfl, HW3.out⟩
        obtain ⟨m0, m1, m2⟩ := HM.out (by omega) (by omega) (by omega)
        have M1 := Lib.hid m1
        have hdm := HDM.out
        rw [if_neg (by omega)] at hdm
        have HDX := Lib.hid hdm
        clear m1 hdm HDM HM
        go_wp2
        refine ⟨⟨k + 1, n * dv, by omega, by go_num, by go_num, HDX.out, m0, M1.out⟩, by simp [intOf]; omega⟩
      · obtain rfl : k = ds.length := by omega
        rw [List.drop_length] at hdm
        have HDM := Lib.hid hdm
        clear hdm
        go_wp2
        go_ret
        exact ⟨by rw [← HDM.out]; rfl, HW3.out⟩
end Go.Proofs.Ytbdhihgokkcmfaa.Ty9
