/- The reference's Meets. -/
import Derived.Test.YtcgapkepbnbabaaDoorKk
import Derived.Test.YtcgapkepbnbabaaDoorKm
namespace Go.Proofs.YtcgapkepbnbabaaDoor.X5
set_option linter.unusedVariables false
set_option linter.unusedSimpArgs false
open Go.RowKit Wd Ty9

/-- Extents number q and j meet. -/
def meetAt (xs : List Xt) (q j : Nat) : Prop := ∃ x y, xs[q]? = some x ∧ xs[j]? = some y ∧ mayP x ∧ mayP y ∧ com x y
theorem com_swap {x y : Xt} (h : com x y) : com y x := by unfold com at *; omega
theorem noMeet_succ {xs : List Xt} {q : Nat} (hq : q < xs.length) (h : noMeet (xs.take q)) (hj : ∀ j, j < q → ¬ meetAt xs q j) : noMeet (xs.take (q + 1)) := by
  have htk : xs.take (q + 1) = xs.take q ++ [xs[q]] := by rw [List.take_add_one, List.getElem?_eq_getElem hq]; rfl
  unfold noMeet at *
  rw [htk, List.pairwise_append]
  refine ⟨h, List.pairwise_singleton _ _, ?_⟩
  intro a ha c hc hac
  rw [List.mem_singleton] at hc
  subst hc
  obtain ⟨j, hjl, rfl⟩ := List.getElem_of_mem ha
  have hjq : j < q := by rw [List.length_take] at hjl; omega
  refine hj j hjq ⟨xs[q], xs[j]'(by omega), List.getElem?_eq_getElem _, List.getElem?_eq_getElem _, hac.2.1, ?_, ?_⟩
  · have := hac.1; rwa [List.getElem_take] at this
  · have := com_swap hac.2.2; rwa [List.getElem_take] at this
theorem meet_bad {xs : List Xt} {q j : Nat} (hj : j < q) (h : meetAt xs q j) : ¬ noMeet xs := by
  obtain ⟨x, y, hx, hy, h1, h2, h3⟩ := h
  obtain ⟨hxl, rfl⟩ := List.getElem?_eq_some_iff.mp hx
  obtain ⟨hyl, rfl⟩ := List.getElem?_eq_some_iff.mp hy
  intro hn
  unfold noMeet at hn
  exact List.pairwise_iff_getElem.mp hn j q hyl hxl hj ⟨h2, h1, com_swap h3⟩
theorem notMeet_step {xs : List Xt} {q k : Nat} {x y : Xt} (hx : xs[q]? = some x) (hy : xs[k]? = some y) (hj : ∀ j, j < k → ¬ meetAt xs q j) (h : ¬ (mayP x ∧ mayP y ∧ com x y)) : ∀ j, j < k + 1 → ¬ meetAt xs q j := by
  intro j hjk
  rcases Nat.lt_succ_iff_lt_or_eq.mp hjk with h1 | rfl
  · exact hj j h1
  · rintro ⟨x', y', e1, e2, h2⟩
    rw [hx] at e1; rw [hy] at e2
    cases e1; cases e2
    exact h h2

set_option maxHeartbeats 8000000 in
set_option maxRecDepth 100000 in
theorem rmeets_any (A : Option Addr) (n C lo hi : Nat) (xs : List Xt) (w : World) (hn : n ≤ 140737488355328) (h : Ex w lo hi A n xs) (hhi : hi ≤ w.heap.size) :
    Calls Tryd.prog 32 #[.slice A n C] w fun e w' => ∃ r : Bool, e = .returned (.bool r) ∧ Hid (r = false ↔ noMeet xs) ∧ Below w.heap.size w w' := by
  have hl := h.len
  have HX := Lib.hid h
  clear h
  go_enter Tryd.func32, Tryd.ntmps32
  go_wp2
  go_loopw [3] (fun i wr => ∃ (q : Nat), i = .int .i64 q ∧ q ≤ n ∧ Below w.heap.size w wr ∧ Hid (noMeet (xs.take q))) (fun i _ => n - (intOf i).toNat)
  case atStart => exact ⟨0, rfl, Nat.zero_le _, Below.refl _ _, Lib.hid (by simp [noMeet])⟩
  case round =>
    obtain ⟨q, rfl, hq, hbe, HN⟩ := hrel
    have HB0 := Lib.hid hbe
    clear hbe
    by_cases hlt : q < n
    · have hltz : (q : Int) < (n : Int) := by omega
      obtain ⟨b, o, rfl, hb1, hb2, -⟩ := HX.out.at_ (by omega)
      have hbw : b < w.heap.size := Nat.lt_of_lt_of_le hb2 hhi
      go_wp2
      generalize wr = wo at *
      go_loopw [4] (fun k4 wr => ∃ (k : Nat), k4 = .int .i64 k ∧ k ≤ q ∧ Below w.heap.size w wr ∧ Hid (∀ j, j < k → ¬ meetAt xs q j)) (fun k4 _ => q - (intOf k4).toNat)
      case atStart => exact ⟨0, rfl, Nat.zero_le _, HB0.out, Lib.hid (fun j h => absurd h (Nat.not_lt_zero _))⟩
      case round =>
        obtain ⟨k, rfl, hk, hbe, HJ⟩ := hrel
        have HBE := Lib.hid hbe
        clear hbe
        by_cases hkq : k < q
        · have hkqz : (k : Int) < (q : Int) := by omega
          have hknz : (k : Int) < (n : Int) := by omega
          obtain ⟨c0, c1⟩ := HX.out.get rfl (i := q) (by omega)
          obtain ⟨d0, d1⟩ := HX.out.get rfl (i := k) (by omega)
          have HXQ := Lib.hid (show xs[q]? = some xs[q] from List.getElem?_eq_getElem _)
          have HXK := Lib.hid (show xs[k]? = some (xs[k]'(by omega)) from List.getElem?_eq_getElem _)
          generalize xs[q] = x at c0 c1 HXQ
          generalize xs[k]'_ = y at d0 d1 HXK
          replace c0 := Lib.hid c0
          replace c1 := Lib.hid c1
          replace d0 := Lib.hid d0
          replace d1 := Lib.hid d1
          by_cases hmx : mayP x
          · have HMX := Lib.hid hmx
            by_cases hmy : mayP y
            · have HMY := Lib.hid hmy
              by_cases hc : com x y
              · have HC := Lib.hid hc
                have HBAD := Lib.hid (meet_bad hkq ⟨x, y, HXQ.out, HXK.out, hmx, hmy, hc⟩)
                clear hmx hmy hc
                go_upto_region 7 with fail
                obtain ⟨G, hGd⟩ : ∃ G : World → Prop, G = fun w' => Below w.heap.size w w' := ⟨_, rfl⟩
                have hG0 : G { wr with drawn := wr.drawn + 1 } := by rw [hGd]; exact HBE.out.drew
                have hG1 : Hid (∀ (s : Wof G) w2, Below s.val.heap.size s.val w2 → G w2) := Lib.hid (by subst hGd; exact fun s w2 hb2 => below_more s.is hb2)
                have hG2 : Hid (∀ s : Wof G, Below w.heap.size w s.val) := Lib.hid (by subst hGd; exact fun s => s.is)
                have c0 : ∀ s : Wof G, s.val.cell? ⟨b, o + q * 2, none⟩ = some (.int .i64 x.1) := fun s => ((hG2.out s).cell (p := ⟨b, o + q * 2, none⟩) hbw).trans c0.out
                have c1 : ∀ s : Wof G, s.val.cell? ⟨b, o + q * 2 + 1, none⟩ = some (.int .i64 x.2) := fun s => ((hG2.out s).cell (p := ⟨b, o + q * 2 + 1, none⟩) hbw).trans c1.out
                have d0 : ∀ s : Wof G, s.val.cell? ⟨b, o + k * 2, none⟩ = some (.int .i64 y.1) := fun s => ((hG2.out s).cell (p := ⟨b, o + k * 2, none⟩) hbw).trans d0.out
                have d1 : ∀ s : Wof G, s.val.cell? ⟨b, o + k * 2 + 1, none⟩ = some (.int .i64 y.2) := fun s => ((hG2.out s).cell (p := ⟨b, o + k * 2 + 1, none⟩) hbw).trans d1.out
                have hne : Nonempty (Wof G) := ⟨⟨_, hG0⟩⟩
                clear hGd
                refine wp_region_kept (G := G) (by kernel_rfl) (by kernel_rfl) hG0 ?_
                clear hG0
                repeat (go_big_quiet_step ((first | (go_at_call_of 52 (Value.agg #[.int .i64 x.1, .int .i64 x.2]); refine (rmay_any x _).mono ?_; rintro _ w2 ⟨he, hb2⟩; rw [decide_eq_true HMX.out] at he; exact ⟨he, ⟨w2, hG1.out _ _ hb2⟩, rfl⟩) | (go_at_call_of 52 (Value.agg #[.int .i64 y.1, .int .i64 y.2]); refine (rmay_any y _).mono ?_; rintro _ w2 ⟨he, hb2⟩; rw [decide_eq_true HMY.out] at he; exact ⟨he, ⟨w2, hG1.out _ _ hb2⟩, rfl⟩) | (go_at_call 53; refine (common_any x y _ HMX.out HMY.out).mono ?_; rintro _ w2 ⟨he, hb2⟩; rw [decide_eq_true HC.out] at he; exact ⟨he, ⟨w2, hG1.out _ _ hb2⟩, rfl⟩))))
                refine wpQuiet_nil ?_
                rintro _ ⟨s, rfl⟩
                have HW := Lib.hid (hG2.out s)
                obtain ⟨w2, hw2⟩ := s
                change Hid (Below w.heap.size w w2) at HW
                clear hG1 hG2 hne c0 c1 d0 d1
                simp only
                go_wp2
                go_ret
                exact ⟨true, rfl, Lib.hid ⟨(fun h => nomatch h), fun h => absurd h HBAD.out⟩, HW.out⟩
              · have HC := Lib.hid hc
                have HJ2 := Lib.hid (notMeet_step HXQ.out HXK.out HJ.out (fun h => hc h.2.2))
                clear hmx hmy hc
                go_upto_region 7 with fail
                obtain ⟨G, hGd⟩ : ∃ G : World → Prop, G = fun w' => Below w.heap.size w w' := ⟨_, rfl⟩
                have hG0 : G { wr with drawn := wr.drawn + 1 } := by rw [hGd]; exact HBE.out.drew
                have hG1 : Hid (∀ (s : Wof G) w2, Below s.val.heap.size s.val w2 → G w2) := Lib.hid (by subst hGd; exact fun s w2 hb2 => below_more s.is hb2)
                have hG2 : Hid (∀ s : Wof G, Below w.heap.size w s.val) := Lib.hid (by subst hGd; exact fun s => s.is)
                have c0 : ∀ s : Wof G, s.val.cell? ⟨b, o + q * 2, none⟩ = some (.int .i64 x.1) := fun s => ((hG2.out s).cell (p := ⟨b, o + q * 2, none⟩) hbw).trans c0.out
                have c1 : ∀ s : Wof G, s.val.cell? ⟨b, o + q * 2 + 1, none⟩ = some (.int .i64 x.2) := fun s => ((hG2.out s).cell (p := ⟨b, o + q * 2 + 1, none⟩) hbw).trans c1.out
                have d0 : ∀ s : Wof G, s.val.cell? ⟨b, o + k * 2, none⟩ = some (.int .i64 y.1) := fun s => ((hG2.out s).cell (p := ⟨b, o + k * 2, none⟩) hbw).trans d0.out
                have d1 : ∀ s : Wof G, s.val.cell? ⟨b, o + k * 2 + 1, none⟩ = some (.int .i64 y.2) := fun s => ((hG2.out s).cell (p := ⟨b, o + k * 2 + 1, none⟩) hbw).trans d1.out
                have hne : Nonempty (Wof G) := ⟨⟨_, hG0⟩⟩
                clear hGd
                refine wp_region_kept (G := G) (by kernel_rfl) (by kernel_rfl) hG0 ?_
                clear hG0
                repeat (go_big_quiet_step ((first | (go_at_call_of 52 (Value.agg #[.int .i64 x.1, .int .i64 x.2]); refine (rmay_any x _).mono ?_; rintro _ w2 ⟨he, hb2⟩; rw [decide_eq_true HMX.out] at he; exact ⟨he, ⟨w2, hG1.out _ _ hb2⟩, rfl⟩) | (go_at_call_of 52 (Value.agg #[.int .i64 y.1, .int .i64 y.2]); refine (rmay_any y _).mono ?_; rintro _ w2 ⟨he, hb2⟩; rw [decide_eq_true HMY.out] at he; exact ⟨he, ⟨w2, hG1.out _ _ hb2⟩, rfl⟩) | (go_at_call 53; refine (common_any x y _ HMX.out HMY.out).mono ?_; rintro _ w2 ⟨he, hb2⟩; rw [decide_eq_false HC.out] at he; exact ⟨he, ⟨w2, hG1.out _ _ hb2⟩, rfl⟩))))
                refine wpQuiet_nil ?_
                rintro _ ⟨s, rfl⟩
                have HW := Lib.hid (hG2.out s)
                obtain ⟨w2, hw2⟩ := s
                change Hid (Below w.heap.size w w2) at HW
                clear hG1 hG2 hne c0 c1 d0 d1
                simp only
                go_wp2
                go_roundw
                case rel => exact ⟨k + 1, by go_num, by omega, HW.out, HJ2⟩
                case measure => simp [intOf]; omega
            · have HMY := Lib.hid hmy
              have HJ2 := Lib.hid (notMeet_step HXQ.out HXK.out HJ.out (fun h => hmy h.2.1))
              clear hmx hmy
              go_upto_region 7 with fail
              obtain ⟨G, hGd⟩ : ∃ G : World → Prop, G = fun w' => Below w.heap.size w w' := ⟨_, rfl⟩
              have hG0 : G { wr with drawn := wr.drawn + 1 } := by rw [hGd]; exact HBE.out.drew
              have hG1 : Hid (∀ (s : Wof G) w2, Below s.val.heap.size s.val w2 → G w2) := Lib.hid (by subst hGd; exact fun s w2 hb2 => below_more s.is hb2)
              have hG2 : Hid (∀ s : Wof G, Below w.heap.size w s.val) := Lib.hid (by subst hGd; exact fun s => s.is)
              have c0 : ∀ s : Wof G, s.val.cell? ⟨b, o + q * 2, none⟩ = some (.int .i64 x.1) := fun s => ((hG2.out s).cell (p := ⟨b, o + q * 2, none⟩) hbw).trans c0.out
              have c1 : ∀ s : Wof G, s.val.cell? ⟨b, o + q * 2 + 1, none⟩ = some (.int .i64 x.2) := fun s => ((hG2.out s).cell (p := ⟨b, o + q * 2 + 1, none⟩) hbw).trans c1.out
              have d0 : ∀ s : Wof G, s.val.cell? ⟨b, o + k * 2, none⟩ = some (.int .i64 y.1) := fun s => ((hG2.out s).cell (p := ⟨b, o + k * 2, none⟩) hbw).trans d0.out
              have d1 : ∀ s : Wof G, s.val.cell? ⟨b, o + k * 2 + 1, none⟩ = some (.int .i64 y.2) := fun s => ((hG2.out s).cell (p := ⟨b, o + k * 2 + 1, none⟩) hbw).trans d1.out
              have hne : Nonempty (Wof G) := ⟨⟨_, hG0⟩⟩
              clear hGd
              refine wp_region_kept (G := G) (by kernel_rfl) (by kernel_rfl) hG0 ?_
              clear hG0
              repeat (go_big_quiet_step ((first | (go_at_call_of 52 (Value.agg #[.int .i64 x.1, .int .i64 x.2]); refine (rmay_any x _).mono ?_; rintro _ w2 ⟨he, hb2⟩; rw [decide_eq_true HMX.out] at he; exact ⟨he, ⟨w2, hG1.out _ _ hb2⟩, rfl⟩) | (go_at_call_of 52 (Value.agg #[.int .i64 y.1, .int .i64 y.2]); refine (rmay_any y _).mono ?_; rintro _ w2 ⟨he, hb2⟩; rw [decide_eq_false HMY.out] at he; exact ⟨he, ⟨w2, hG1.out _ _ hb2⟩, rfl⟩))))
              refine wpQuiet_nil ?_
              rintro _ ⟨s, rfl⟩
              have HW := Lib.hid (hG2.out s)
              obtain ⟨w2, hw2⟩ := s
              change Hid (Below w.heap.size w w2) at HW
              clear hG1 hG2 hne c0 c1 d0 d1
              simp only
              go_wp2
              go_roundw
              case rel => exact ⟨k + 1, by go_num, by omega, HW.out, HJ2⟩
              case measure => simp [intOf]; omega
          · have HMX := Lib.hid hmx
            have HJ2 := Lib.hid (notMeet_step HXQ.out HXK.out HJ.out (fun h => hmx h.1))
            clear hmx
            go_upto_region 7 with fail
            obtain ⟨G, hGd⟩ : ∃ G : World → Prop, G = fun w' => Below w.heap.size w w' := ⟨_, rfl⟩
            have hG0 : G { wr with drawn := wr.drawn + 1 } := by rw [hGd]; exact HBE.out.drew
            have hG1 : Hid (∀ (s : Wof G) w2, Below s.val.heap.size s.val w2 → G w2) := Lib.hid (by subst hGd; exact fun s w2 hb2 => below_more s.is hb2)
            have hG2 : Hid (∀ s : Wof G, Below w.heap.size w s.val) := Lib.hid (by subst hGd; exact fun s => s.is)
            have c0 : ∀ s : Wof G, s.val.cell? ⟨b, o + q * 2, none⟩ = some (.int .i64 x.1) := fun s => ((hG2.out s).cell (p := ⟨b, o + q * 2, none⟩) hbw).trans c0.out
            have c1 : ∀ s : Wof G, s.val.cell? ⟨b, o + q * 2 + 1, none⟩ = some (.int .i64 x.2) := fun s => ((hG2.out s).cell (p := ⟨b, o + q * 2 + 1, none⟩) hbw).trans c1.out
            have d0 : ∀ s : Wof G, s.val.cell? ⟨b, o + k * 2, none⟩ = some (.int .i64 y.1) := fun s => ((hG2.out s).cell (p := ⟨b, o + k * 2, none⟩) hbw).trans d0.out
            have d1 : ∀ s : Wof G, s.val.cell? ⟨b, o + k * 2 + 1, none⟩ = some (.int .i64 y.2) := fun s => ((hG2.out s).cell (p := ⟨b, o + k * 2 + 1, none⟩) hbw).trans d1.out
            have hne : Nonempty (Wof G) := ⟨⟨_, hG0⟩⟩
            clear hGd
            refine wp_region_kept (G := G) (by kernel_rfl) (by kernel_rfl) hG0 ?_
            clear hG0
            repeat (go_big_quiet_step (((go_at_call_of 52 (Value.agg #[.int .i64 x.1, .int .i64 x.2]); refine (rmay_any x _).mono ?_; rintro _ w2 ⟨he, hb2⟩; rw [decide_eq_false HMX.out] at he; exact ⟨he, ⟨w2, hG1.out _ _ hb2⟩, rfl⟩))))
            refine wpQuiet_nil ?_
            rintro _ ⟨s, rfl⟩
            have HW := Lib.hid (hG2.out s)
            obtain ⟨w2, hw2⟩ := s
            change Hid (Below w.heap.size w w2) at HW
            clear hG1 hG2 hne c0 c1 d0 d1
            simp only
            go_wp2
            go_roundw
            case rel => exact ⟨k + 1, by go_num, by omega, HW.out, HJ2⟩
            case measure => simp [intOf]; omega
        · obtain rfl : k = q := by omega
          have HN2 := Lib.hid (noMeet_succ (by omega) HN.out HJ.out)
          go_wp2
          go_roundw
          case rel => exact ⟨k + 1, by go_num, by omega, HBE.out, HN2⟩
          case measure => simp [intOf]; omega
    · obtain rfl : q = n := by omega
      have HF := Lib.hid (show noMeet xs by have h1 := HN.out; rwa [List.take_of_length_le (by omega)] at h1)
      go_wp2
      go_ret
      exact ⟨false, rfl, Lib.hid ⟨fun _ => HF.out, fun _ => rfl⟩, HB0.out⟩
end Go.Proofs.YtcgapkepbnbabaaDoor.X5
