/- lives of chapter 6; heaps that are none. -/
import Derived.Test.YtpajimkebnfneaaDoorNe
import Derived.Test.YtpajimkebnfneaaDoorOf
import Derived.Lib.ConvBytes
import Derived.Lib.SlBytesConst
namespace Go.Proofs.YtpajimkebnfneaaDoor.X5
set_option linter.unusedVariables false
set_option linter.unusedSimpArgs false
open Go.RowKit Go.Maps Wd Ty9

theorem below_turn {B mb : Nat} {w w1 w2 : World} (h : Below B w w1) (hB : B ≤ w1.heap.size) (hg : w1.grownBy w2 (some mb)) (hm : B ≤ mb) : Below B w w2 :=
  h.grown hg hB (fun k e => by cases e; exact hm)

theorem byt_str (W : World) (xs : List Nat) (hl : ∀ x ∈ xs, x < 256) (p : Nat × Nat) : Byt (W.alloc (.cells (by8 xs).toArray 5 p)) (W.alloc (.cells (by8 xs).toArray 5 p)).heap.size (some ⟨W.heap.size, 0, none⟩) xs.length xs :=
  ⟨rfl, hl, fun _ => ⟨W.heap.size, 0, rfl, by rw [size_alloc]; exact Nat.lt_succ_self _, fun j hj => by
    rw [cell_of_row _ _ (0 + j) _ _ p (heap_alloc_new W _)]
    simp [by8, hj]⟩⟩

set_option maxHeartbeats 4000000 in
set_option maxRecDepth 100000 in
theorem lives6_any (w : World) (hG : Gs w) : Calls Tryd.prog 14 #[] w fun e w' => e = .returned (.bool true) ∧ Below w.heap.size w w' := by
  have HGS := Lib.hid hG
  have HNW := Lib.hid (new_any w)
  have hcv1 : ∀ W : World, (convert 22 22 (.slice (some ⟨W.heap.size, 0, none⟩) 1 1)).run Tryd.prog (W.alloc (.cells #[.int .u8 97] 5)) = .ok (.slice (some ⟨W.heap.size, 0, none⟩) 1 1) (W.alloc (.cells #[.int .u8 97] 5 (1, 2))) :=
    fun W => Lib.run_convert_bytes_const W 22 5 #[.int .u8 97] 1 1 Tryd.underlying22 Tryd.underlying5
  have hcv2 : ∀ W : World, (convert 22 22 (.slice (some ⟨W.heap.size, 0, none⟩) 2 2)).run Tryd.prog (W.alloc (.cells #[.int .u8 98, .int .u8 99] 5)) = .ok (.slice (some ⟨W.heap.size, 0, none⟩) 2 2) (W.alloc (.cells #[.int .u8 98, .int .u8 99] 5 (2, 3))) :=
    fun W => Lib.run_convert_bytes_const W 22 5 #[.int .u8 98, .int .u8 99] 2 2 Tryd.underlying22 Tryd.underlying5
  clear hG
  go_enter Tryd.func14, Tryd.ntmps14
  go_wp2_with (go_at_call 17; refine HNW.out.mono ?_; rintro _ w1 ⟨hb, S, rfl, ⟨mb, D, Lv, h⟩, hS, hbe⟩; refine Hid.out ?_)
  have HB1 := Lib.hid hbe
  have hmb : w.heap.size ≤ mb := hS _ h.sm
  have HA1 := Lib.hid (below_new w1 (.cells (by8 [97]).toArray 5 (1, 2)))
  have HD1 := Lib.hid (show Calls Tryd.prog 8 #[.pointer (some ⟨hb, 0, none⟩), .slice (some ⟨w1.heap.size, 0, none⟩) 1 1] (w1.alloc (.cells #[.int .u8 97] 5 (1, 2))) (fun e w' => e = .returned (.tuple #[.int .i64 0, .int .i64 0]) ∧ (∃ S' D' Lv', HpR w' S' hb mb D' Lv' [some [97]] ∧ (∀ j, S' j → S j ∨ (w1.alloc (.cells #[.int .u8 97] 5 (1, 2))).heap.size ≤ j)) ∧ (w1.alloc (.cells #[.int .u8 97] 5 (1, 2))).grownBy w' (some mb)) from add_any (h.later HA1.out) (by simp) (byt_str w1 [97] (by decide) (1, 2)) (by simp) (d := 1))
  clear h hbe
  refine go_on ?_
  go_wp2_with (go_at_call 8; refine HD1.out.mono ?_; rintro _ w2 ⟨rfl, ⟨S2, D2, Lv2, h2, hS2⟩, hg2⟩; refine Hid.out ?_)
  have HB2 := Lib.hid (below_turn (below_more HB1.out HA1.out) (Nat.le_trans HB1.out.size HA1.out.size) hg2 hmb)
  have HA2 := Lib.hid (below_new w2 (.cells (by8 [98, 99]).toArray 5 (2, 3)))
  have HD2 := Lib.hid (show Calls Tryd.prog 8 #[.pointer (some ⟨hb, 0, none⟩), .slice (some ⟨w2.heap.size, 0, none⟩) 2 2] (w2.alloc (.cells #[.int .u8 98, .int .u8 99] 5 (2, 3))) (fun e w' => e = .returned (.tuple #[.int .i64 1, .int .i64 0]) ∧ (∃ S' D' Lv', HpR w' S' hb mb D' Lv' [some [97], some [98, 99]] ∧ (∀ j, S' j → S2 j ∨ (w2.alloc (.cells #[.int .u8 98, .int .u8 99] 5 (2, 3))).heap.size ≤ j)) ∧ (w2.alloc (.cells #[.int .u8 98, .int .u8 99] 5 (2, 3))).grownBy w' (some mb)) from add_any (h2.later HA2.out) (by simp) (byt_str w2 [98, 99] (by decide) (2, 3)) (by simp) (d := 2))
  clear h2 hg2
  refine go_on ?_
  go_wp2_with (go_at_call 8; refine HD2.out.mono ?_; rintro _ w3 ⟨rfl, ⟨S3, D3, Lv3, h3, hS3⟩, hg3⟩; refine Hid.out ?_)
  have HB3 := Lib.hid (below_turn (below_more HB2.out HA2.out) (Nat.le_trans HB2.out.size HA2.out.size) hg3 hmb)
  have HD3 := Lib.hid (show Calls Tryd.prog 10 #[.pointer (some ⟨hb, 0, none⟩), .int .i64 0] w3 _ from drop_yes (i := 0) (x := [97]) h3 rfl (by omega))
  clear h3 hg3
  refine go_on ?_
  go_wp2_with (go_at_call 10; refine HD3.out.mono ?_; rintro _ w4 ⟨rfl, ⟨D4, Lv4, h4⟩, hg4⟩; refine Hid.out ?_)
  have HB4 := Lib.hid (below_turn HB3.out HB3.out.size hg4 hmb)
  have h4 : HpR w4 S3 hb mb D4 Lv4 [none, some [98, 99]] := h4
  have HH4 := Lib.hid h4
  have HBY := Lib.hid (fun (W : World) (hbe : Below w4.heap.size w4 W) => bytes_any (h4.later hbe) (by simp) (HGS.out.later (below_more HB4.out hbe) (Nat.le_refl _)))
  have HBY4 := Lib.hid (HBY.out w4 (Below.refl _ _))
  have hlen : (sealL (heapB [none, some [98, 99]])).length = 16 := by rw [sealL]; simp [heapB, lastN, idsL, idsA, slotB, digs_len]
  clear h4 hg4
  refine go_on ?_
  go_wp2_with (go_at_call 13; refine HBY4.out.mono ?_; rintro _ w5 ⟨V5, rfl, hr5, hb5⟩; refine Hid.out ?_)
  obtain ⟨A5, C5, rfl⟩ := own_form hr5.own
  rw [hlen]
  have HB5 := Lib.hid (below_more HB4.out hb5)
  have HBY5 := Lib.hid (HBY.out w5 hb5)
  clear hr5 hb5
  refine go_on ?_
  go_wp2_with (go_at_call 13; refine HBY5.out.mono ?_; rintro _ w6 ⟨V6, rfl, hr6, hb6⟩; refine Hid.out ?_)
  obtain ⟨A6, C6, rfl⟩ := own_form hr6.own
  rw [hlen]
  have HB6 := Lib.hid (below_more HB5.out hb6)
  have hc16 : 16 ≤ C6 := by
    rcases hr6.own.2 with ⟨hv, h1⟩ | ⟨g, cap, cur, hv, _, _, hc, _⟩
    · rw [hlen] at h1; omega
    · injection hv with e1 e2 e3; omega
  have hy6 : Byt w6 w6.heap.size A6 16 (sealL (heapB [none, some [98, 99]])) := by
    have := Byt.of_own (n := 16) (c := C6) (A := A6) (by have h1 := hr6.own; rw [hlen] at h1; exact h1) hr6.lt
    exact this
  have hy12 : Byt w6 w6.heap.size A6 12 [0, 0, 0, 2, 0, 1, 0, 0, 0, 2, 98, 99] := by
    have e : (sealL (heapB [none, some [98, 99]])).take 12 = [0, 0, 0, 2, 0, 1, 0, 0, 0, 2, 98, 99] := by
      unfold sealL
      rw [List.take_append_of_le_length (by simp [heapB, lastN, idsL, idsA, slotB, digs_len])]
      rfl
    refine ⟨rfl, by decide, fun _ => ?_⟩
    obtain ⟨b, o, e1, e2, e3⟩ := hy6.at_ (by omega)
    refine ⟨b, o, e1, e2, fun j hj => ?_⟩
    have h1 := e3 j (by rw [hlen]; exact Nat.lt_of_lt_of_le hj (by decide))
    rw [h1]
    have h2 : (sealL (heapB [none, some [98, 99]]))[j]? = ([0, 0, 0, 2, 0, 1, 0, 0, 0, 2, 98, 99] : List Nat)[j]? := by
      rw [← e, List.getElem?_take]
      rw [if_pos (by simpa using hj)]
    rw [List.getElem?_eq_getElem (by rw [hlen]; exact Nat.lt_of_lt_of_le hj (by decide)), List.getElem?_eq_getElem hj] at h2
    injection h2 with h2
    rw [h2]
  have hcv := conv_bytes hy12 C6
  rw [show Ty9.strOf [0, 0, 0, 2, 0, 1, 0, 0, 0, 2, 98, 99] = (⟨#[0, 0, 0, 2, 0, 1, 0, 0, 0, 2, 98, 99]⟩ : ByteArray) from rfl] at hcv
  have k1 : (12 : Int) ≤ (C6 : Int) := by omega
  have hee : ((⟨#[0, 0, 0, 2, 0, 1, 0, 0, 0, 2, 98, 99]⟩ : ByteArray).toList == (⟨#[0, 0, 0, 2, 0, 1, 0, 0, 0, 2, 98, 99]⟩ : ByteArray).toList) = true := by simp
  clear hr6 hb6 hy6 hy12
  refine go_on ?_
  go_wp2
  go_ret
  exact ⟨rfl, HB6.out⟩
end Go.Proofs.YtpajimkebnfneaaDoor.X5
