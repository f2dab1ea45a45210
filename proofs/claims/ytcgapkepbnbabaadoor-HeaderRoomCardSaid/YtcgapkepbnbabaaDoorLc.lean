/- header.may, header.Size. -/
import Derived.Test.YtcgapkepbnbabaaDoorLb
import Derived.Deep.DeepCutAuto
namespace Go.Proofs.YtcgapkepbnbabaaDoor.X5
set_option linter.unusedVariables false
set_option linter.unusedSimpArgs false
open Go.RowKit Wd Ty9

theorem all_snoc {α : Type} {p : α → Prop} {l : List α} {x : α} : (∀ m ∈ l ++ [x], p m) ↔ (∀ m ∈ l, p m) ∧ p x := by
  constructor
  · intro h; exact ⟨fun m hm => h m (by simp [hm]), h x (by simp)⟩
  · rintro ⟨h1, h2⟩ m hm
    rcases List.mem_append.mp hm with hm | hm
    · exact h1 m hm
    · rw [List.mem_singleton] at hm; rw [hm]; exact h2

set_option maxHeartbeats 1000000 in
set_option maxRecDepth 100000 in
theorem hmay_any (A : Option Addr) (n C : Nat) (l : List Mg) (w : World) (hn : n ≤ 140737488355328) (h : Ms w w.heap.size A n l) :
    Calls Tryd.prog 25 #[.slice A n C] w fun e w' => (∃ z : Int, e = .returned (.int .i64 z) ∧ IsMay l z) ∧ Below w.heap.size w w' := by
  have hl := h.len
  have HM := Lib.hid h
  clear h
  by_cases hbig : 65536 < n
  · have z1 : (65536 : Int) < (n : Int) := by omega
    go_enter Tryd.func25, Tryd.ntmps25
    go_wp2
    go_ret
    exact ⟨⟨3, rfl, .inl ⟨fun h => by omega, rfl⟩⟩, Below.refl _ _⟩
  have z1 : ¬ (65536 : Int) < (n : Int) := by omega
  go_enter Tryd.func25, Tryd.ntmps25
  go_wp2
  go_loopw [3, 11] (fun v i wr => ∃ (k : Nat) (z : Int), v = .int .i64 z ∧ i = .int .i64 k ∧ k ≤ n ∧ Below w.heap.size w wr ∧ Hid ((∀ m ∈ l.take k, smallM m) ∧ ((z = 0 ∧ ∀ m ∈ l.take k, okM m) ∨ (z = 2 ∧ ¬ ∀ m ∈ l.take k, okM m)))) (fun _ i _ => n - (intOf i).toNat)
  case atStart => exact ⟨0, 0, rfl, rfl, Nat.zero_le _, Below.refl _ _, Lib.hid ⟨by simp, .inl ⟨rfl, by simp⟩⟩⟩
  case round =>
    obtain ⟨k, z, rfl, rfl, hk, hbe, HZ⟩ := hrel
    have HBE := Lib.hid hbe
    clear hbe
    by_cases hlt : k < n
    · have hltz : (k : Int) < (n : Int) := by omega
      obtain ⟨b, o, x, Ai, ci, rfl, hb1, hx, c0, c1, hci, hmi, hyi⟩ := HM.out.get hlt
      rw [← HBE.out.cell (p := ⟨b, o + k * 2, none⟩) hb1] at c0
      rw [← HBE.out.cell (p := ⟨b, o + k * 2 + 1, none⟩) hb1] at c1
      have HTK := Lib.hid (take_snoc hx)
      have HMEM := Lib.hid (List.mem_of_getElem? hx)
      clear hx hyi
      have HBN := Lib.hid (fun (V : Value) => below_more HBE.out (below_new wr (.cells #[.int .i64 x.1, V] 56)))
      by_cases hs : smallM x
      · have HS := Lib.hid hs
        unfold smallM at hs
        have y1 : ¬ (65536 : Int) < (x.2.length : Int) := by omega
        by_cases h1 : x.1 < 1
        · have HO := Lib.hid (show ¬ okM x from fun h => by have := h.1; omega)
          have d1 : decide (x.1 < 1) = true := by simp; exact h1
          generalize x.2.length = q at *
          clear hs
          go_wp2
          go_roundw
          case rel => exact ⟨k + 1, 2, rfl, by go_num, by omega, HBN.out _, Lib.hid (by rw [HTK.out]; exact ⟨all_snoc.mpr ⟨HZ.out.1, HS.out⟩, .inr ⟨rfl, fun h => HO.out (all_snoc.mp h).2⟩⟩)⟩
          case measure => simp [intOf]; omega
        · have d1 : decide (x.1 < 1) = false := by simp; omega
          by_cases h2 : 255 < x.1
          · have HO := Lib.hid (show ¬ okM x from fun h => by have := h.2; omega)
            have d2 : decide (255 < x.1) = true := by simp; exact h2
            generalize x.2.length = q at *
            clear hs
            go_wp2
            go_roundw
            case rel => exact ⟨k + 1, 2, rfl, by go_num, by omega, HBN.out _, Lib.hid (by rw [HTK.out]; exact ⟨all_snoc.mpr ⟨HZ.out.1, HS.out⟩, .inr ⟨rfl, fun h => HO.out (all_snoc.mp h).2⟩⟩)⟩
            case measure => simp [intOf]; omega
          · have HO := Lib.hid (show okM x from ⟨by omega, by omega⟩)
            have d2 : decide (255 < x.1) = false := by simp; omega
            generalize x.2.length = q at *
            clear hs
            go_wp2
            go_roundw
            case rel => exact ⟨k + 1, z, rfl, by go_num, by omega, HBN.out _, Lib.hid (by
              rw [HTK.out]
              refine ⟨all_snoc.mpr ⟨HZ.out.1, HS.out⟩, ?_⟩
              rcases HZ.out.2 with ⟨e, h⟩ | ⟨e, h⟩
              · exact .inl ⟨e, all_snoc.mpr ⟨h, HO.out⟩⟩
              · exact .inr ⟨e, fun h3 => h (all_snoc.mp h3).1⟩)⟩
            case measure => simp [intOf]; omega
      · have HS := Lib.hid (show IsMay l 3 from .inl ⟨fun h => hs (h.2 x HMEM.out), rfl⟩)
        unfold smallM at hs
        have y1 : (65536 : Int) < (x.2.length : Int) := by omega
        generalize x.2.length = q at *
        clear hs
        go_wp2
        go_ret
        exact ⟨⟨3, rfl, HS.out⟩, HBN.out _⟩
    · obtain rfl : k = n := by omega
      have HF := Lib.hid (show IsMay l z by
        have h1 := HZ.out
        rw [List.take_of_length_le (by omega)] at h1
        refine .inr ⟨⟨by omega, h1.1⟩, ?_⟩
        rcases h1.2 with ⟨e, h⟩ | ⟨e, h⟩
        · exact .inr ⟨h, e⟩
        · exact .inl ⟨h, e⟩)
      go_wp2
      go_ret
      exact ⟨⟨z, rfl, HF.out⟩, HBE.out⟩

set_option maxHeartbeats 1000000 in
set_option maxRecDepth 100000 in
theorem size_any (A : Option Addr) (n C : Nat) (l : List Mg) (w : World) (hn : n ≤ 140737488355328) (h : Ms w w.heap.size A n l) :
    Calls Tryd.prog 11 #[.slice A n C] w fun e w' => (∃ z s : Int, e = .returned (.tuple #[.int .i64 s, .int .i64 z]) ∧ IsMay l z ∧ ((z ≠ 0 ∧ s = 0) ∨ (z = 0 ∧ s = (sizeM l : Int)))) ∧ Below w.heap.size w w' := by
  have hl := h.len
  have HM := Lib.hid h
  have HMY := Lib.hid (hmay_any A n C l w hn h)
  clear h
  go_enter Tryd.func11, Tryd.ntmps11
  go_wp2_with (go_at_call 25; refine HMY.out.mono ?_; rintro _ w1 ⟨⟨z, rfl, hmy⟩, hb⟩; refine Hid.out ?_)
  have HB1 := Lib.hid hb
  have HMZ := Lib.hid hmy
  clear HMY
  by_cases hz : z = 0
  · subst hz
    obtain ⟨hlen, hsm⟩ : l.length ≤ 65536 ∧ ∀ m ∈ l, smallM m := by
      rcases hmy with ⟨_, h⟩ | ⟨h, _⟩
      · cases h
      · exact h
    have HSM := Lib.hid hsm
    have hnb : n ≤ 65536 := by omega
    clear hb hmy hsm hlen
    refine go_on ?_
    go_wp2
    go_loopw [5, 15] (fun v i wr => ∃ (k : Nat), v = .int .i64 (sizeM (l.take k) : Int) ∧ i = .int .i64 k ∧ k ≤ n ∧ Below w1.heap.size w1 wr) (fun _ i _ => n - (intOf i).toNat)
    case atStart => exact ⟨0, rfl, rfl, Nat.zero_le _, Below.refl _ _⟩
    case round =>
      obtain ⟨k, rfl, rfl, hk, hbe⟩ := hrel
      have HBE := Lib.hid (below_more HB1.out hbe)
      have HB3 := Lib.hid hbe
      clear hbe
      by_cases hlt : k < n
      · have hltz : (k : Int) < (n : Int) := by omega
        obtain ⟨b, o, x, Ai, ci, rfl, hb1, hx, c0, c1, hci, hmi, hyi⟩ := HM.out.get hlt
        rw [← HBE.out.cell (p := ⟨b, o + k * 2, none⟩) hb1] at c0
        rw [← HBE.out.cell (p := ⟨b, o + k * 2 + 1, none⟩) hb1] at c1
        have hsx := HSM.out x (List.mem_of_getElem? hx)
        unfold smallM at hsx
        have hszk := size_bound (l := l.take k) (fun m hm => HSM.out m (List.mem_of_mem_take hm))
        rw [List.length_take] at hszk
        have HTK := Lib.hid (show sizeM (l.take (k + 1)) = sizeM (l.take k) + (8 + x.2.length) by rw [take_snoc hx, size_snoc])
        have HBN := Lib.hid (fun (V : Value) => below_more HB3.out (below_new wr (.cells #[.int .i64 x.1, V] 56)))
        clear hx hyi
        generalize sizeM (l.take k) = s at *
        generalize x.2.length = q at *
        have R1 := Lib.hid (show IntKind.i64.wrap (8 + (q : Int)) = 8 + (q : Int) from IntWalk.i64_in _ (by omega))
        have R1' := Lib.hid (show wrap64 (8 + (q : Int)) = 8 + (q : Int) by unfold wrap64; omega)
        have R2 := Lib.hid (show IntKind.i64.wrap ((s : Int) + (8 + (q : Int))) = (s : Int) + (8 + (q : Int)) from IntWalk.i64_in _ (by omega))
        have R2' := Lib.hid (show wrap64 ((s : Int) + (8 + (q : Int))) = (s : Int) + (8 + (q : Int)) by unfold wrap64; omega)
        have r1 := R1.out
        have r1' := R1'.out
        have r2 := R2.out
        have r2' := R2'.out
        clear hszk
        go_wp2
        go_roundw
        case rel => exact ⟨k + 1, by rw [HTK.out]; go_num, by go_num, by omega, HBN.out _⟩
        case measure => simp [intOf]; omega
      · obtain rfl : k = n := by omega
        rw [List.take_of_length_le (show l.length ≤ k by omega)]
        generalize hs : sizeM l = s at *
        have HS := Lib.hid hs
        clear hs
        go_wp2
        go_ret2
        exact ⟨⟨0, s, rfl, HMZ.out, .inr ⟨rfl, by rw [HS.out]⟩⟩, HBE.out⟩
  · have z1 : (z != 0) = true := by simp [bne]; exact hz
    have z2 : (z == 0) = false := beq_eq_false_iff_ne.2 hz
    have HZ := Lib.hid hz
    clear hz hmy hb
    refine go_on ?_
    go_wp2
    go_ret2
    exact ⟨⟨z, 0, rfl, HMZ.out, .inl ⟨HZ.out, rfl⟩⟩, HB1.out⟩
end Go.Proofs.YtcgapkepbnbabaaDoor.X5
