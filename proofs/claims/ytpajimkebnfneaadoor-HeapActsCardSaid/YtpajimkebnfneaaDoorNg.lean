/- Heaps that are none: the law HeapNobody, the walk. -/
import Derived.Test.YtpajimkebnfneaaDoorNf
namespace Go.Proofs.YtpajimkebnfneaaDoor.X5
set_option linter.unusedVariables false
set_option linter.unusedSimpArgs false
open Go.RowKit Go.Maps Wd Ty9

/-- A heap that is none. -/
def NoHeap (P : Value) (w : World) : Prop := Calls Tryd.prog 22 #[P] w fun e w' => e = .returned (.bool false) ∧ w' = w
section
variable {P : Value} {w : World}
theorem add_bad (h : NoHeap P w) {X : Option Addr} {k d : Nat} : Calls Tryd.prog 8 #[P, .slice X k d] w fun e w' => e = .returned (.tuple #[.int .i64 0, .int .i64 1]) ∧ w' = w := by
  have HG := Lib.hid h
  clear h
  go_enter Tryd.func8, Tryd.ntmps8
  go_wp2_with (go_at_call 22; refine HG.out.mono ?_; rintro _ w2 ⟨rfl, rfl⟩)
  go_ret2
  exact ⟨rfl, rfl⟩
theorem get_bad (h : NoHeap P w) {z : Int} : Calls Tryd.prog 9 #[P, .int .i64 z] w fun e w' => e = .returned (.tuple #[.slice none 0 0, .int .i64 1]) ∧ w' = w := by
  have HG := Lib.hid h
  clear h
  go_enter Tryd.func9, Tryd.ntmps9
  go_wp2_with (go_at_call 22; refine HG.out.mono ?_; rintro _ w2 ⟨rfl, rfl⟩)
  go_ret2
  exact ⟨rfl, rfl⟩
theorem drop_bad (h : NoHeap P w) {z : Int} : Calls Tryd.prog 10 #[P, .int .i64 z] w fun e w' => e = .returned (.int .i64 1) ∧ w' = w := by
  have HG := Lib.hid h
  clear h
  go_enter Tryd.func10, Tryd.ntmps10
  go_wp2_with (go_at_call 22; refine HG.out.mono ?_; rintro _ w2 ⟨rfl, rfl⟩)
  go_ret
  exact ⟨rfl, rfl⟩
theorem len_bad (h : NoHeap P w) : Calls Tryd.prog 11 #[P] w fun e w' => e = .returned (.int .i64 0) ∧ w' = w := by
  have HG := Lib.hid h
  clear h
  go_enter Tryd.func11, Tryd.ntmps11
  go_wp2_with (go_at_call 22; refine HG.out.mono ?_; rintro _ w2 ⟨rfl, rfl⟩)
  go_ret
  exact ⟨rfl, rfl⟩
theorem ids_bad (h : NoHeap P w) : Calls Tryd.prog 12 #[P] w fun e w' => e = .returned (.slice none 0 0) ∧ w' = w := by
  have HG := Lib.hid h
  clear h
  go_enter Tryd.func12, Tryd.ntmps12
  go_wp2_with (go_at_call 22; refine HG.out.mono ?_; rintro _ w2 ⟨rfl, rfl⟩)
  go_ret
  exact ⟨rfl, rfl⟩
theorem bytes_bad (h : NoHeap P w) : Calls Tryd.prog 13 #[P] w fun e w' => e = .returned (.slice none 0 0) ∧ w' = w := by
  have HG := Lib.hid h
  clear h
  go_enter Tryd.func13, Tryd.ntmps13
  go_wp2_with (go_at_call 22; refine HG.out.mono ?_; rintro _ w2 ⟨rfl, rfl⟩)
  go_ret
  exact ⟨rfl, rfl⟩
end

set_option maxHeartbeats 4000000 in
set_option maxRecDepth 100000 in
theorem nobody_walk (w : World) (hG : Gs w) (X : Option Addr) (k d : Nat) (bs : List Nat) (hn : k ≤ 140737488355328) (hc : k ≤ d) (h : Byt w w.heap.size X k bs) (id : Int) (hid : -9223372036854775808 ≤ id ∧ id ≤ 9223372036854775807) :
    Calls Tryd.prog 3 #[.slice X k d, .int .i64 id] w fun e w' => e = .returned (.bool true) ∧ Below w.heap.size w w' := by
  have HB := Lib.hid (below_new w (.cells #[.map none] 26))
  have HX := Lib.hid (Bx.new w 26 #[.map none])
  have HLV := Lib.hid (lives6_any _ (hG.later HB.out (Nat.le_refl _)))
  clear h hG hn hc hid
  go_enter Tryd.func3, Tryd.ntmps3
  go_wp2
  generalize hw0 : w.alloc (.cells #[.map none] 26) = w0 at *
  clear hw0
  go_loopw [7] (fun i wr => wr = w0 ∧ (i = .int .i64 0 ∨ i = .int .i64 1 ∨ i = .int .i64 2)) (fun i _ => 2 - (RowKit.intOf i).toNat)
  case atStart => exact ⟨rfl, .inl rfl⟩
  case round =>
    obtain ⟨rfl, rfl | rfl | rfl⟩ := hrel
    · skip
      have HAdd := Lib.hid (add_bad (P := .pointer none) (w := wr) (good_nil wr) (X := X) (k := k) (d := d))
      have HGet := Lib.hid (get_bad (P := .pointer none) (w := wr) (good_nil wr) (z := id))
      have HDrop := Lib.hid (drop_bad (P := .pointer none) (w := wr) (good_nil wr) (z := id))
      have HLen := Lib.hid (len_bad (P := .pointer none) (w := wr) (good_nil wr))
      have HIds := Lib.hid (ids_bad (P := .pointer none) (w := wr) (good_nil wr))
      have HBytes := Lib.hid (bytes_bad (P := .pointer none) (w := wr) (good_nil wr))
      go_wp2_with (first | (go_at_call 8; refine HAdd.out.mono ?_; rintro _ w2 ⟨rfl, rfl⟩) | (go_at_call 9; refine HGet.out.mono ?_; rintro _ w2 ⟨rfl, rfl⟩) | (go_at_call 10; refine HDrop.out.mono ?_; rintro _ w2 ⟨rfl, rfl⟩) | (go_at_call 11; refine HLen.out.mono ?_; rintro _ w2 ⟨rfl, rfl⟩) | (go_at_call 12; refine HIds.out.mono ?_; rintro _ w2 ⟨rfl, rfl⟩) | (go_at_call 13; refine HBytes.out.mono ?_; rintro _ w2 ⟨rfl, rfl⟩))
      go_roundw
      case rel => exact ⟨(by trivial), .inr (.inl rfl)⟩
      case measure => decide
    · skip
      have HAdd := Lib.hid (add_bad (P := .pointer (some ⟨w.heap.size, 0, none⟩)) (w := wr) (good_no w.heap.size wr HX.out) (X := X) (k := k) (d := d))
      have HGet := Lib.hid (get_bad (P := .pointer (some ⟨w.heap.size, 0, none⟩)) (w := wr) (good_no w.heap.size wr HX.out) (z := id))
      have HDrop := Lib.hid (drop_bad (P := .pointer (some ⟨w.heap.size, 0, none⟩)) (w := wr) (good_no w.heap.size wr HX.out) (z := id))
      have HLen := Lib.hid (len_bad (P := .pointer (some ⟨w.heap.size, 0, none⟩)) (w := wr) (good_no w.heap.size wr HX.out))
      have HIds := Lib.hid (ids_bad (P := .pointer (some ⟨w.heap.size, 0, none⟩)) (w := wr) (good_no w.heap.size wr HX.out))
      have HBytes := Lib.hid (bytes_bad (P := .pointer (some ⟨w.heap.size, 0, none⟩)) (w := wr) (good_no w.heap.size wr HX.out))
      go_wp2_with (first | (go_at_call 8; refine HAdd.out.mono ?_; rintro _ w2 ⟨rfl, rfl⟩) | (go_at_call 9; refine HGet.out.mono ?_; rintro _ w2 ⟨rfl, rfl⟩) | (go_at_call 10; refine HDrop.out.mono ?_; rintro _ w2 ⟨rfl, rfl⟩) | (go_at_call 11; refine HLen.out.mono ?_; rintro _ w2 ⟨rfl, rfl⟩) | (go_at_call 12; refine HIds.out.mono ?_; rintro _ w2 ⟨rfl, rfl⟩) | (go_at_call 13; refine HBytes.out.mono ?_; rintro _ w2 ⟨rfl, rfl⟩))
      go_roundw
      case rel => exact ⟨(by trivial), .inr (.inr rfl)⟩
      case measure => decide
    · go_wp2_with (go_at_call 14; refine HLV.out.mono ?_; rintro _ w9 ⟨rfl, hb⟩; refine Hid.out ?_)
      have HB9 := Lib.hid (below_more HB.out hb)
      clear hb
      refine go_on ?_
      go_wp2
      go_ret
      exact ⟨rfl, HB9.out⟩
end Go.Proofs.YtpajimkebnfneaaDoor.X5
