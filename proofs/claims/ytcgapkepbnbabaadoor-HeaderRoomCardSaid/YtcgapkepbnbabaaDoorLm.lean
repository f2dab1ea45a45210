/- The examples of chapter 8. -/
import Derived.Test.YtcgapkepbnbabaaDoorLk
import Derived.Test.YtcgapkepbnbabaaDoorLl
import Derived.Lib.SlBytesConst
namespace Go.Proofs.YtcgapkepbnbabaaDoor.X5
set_option linter.unusedVariables false
set_option linter.unusedSimpArgs false
open Go.RowKit Wd Ty9

def msg0 : List Mg := [(3, [97, 98])]
def room0 : List Xt := [(40, 20), (0, 30)]
theorem may0 : IsMay msg0 0 := .inr ⟨⟨by decide, by intro m hm; simp [msg0] at hm; subst hm; simp [smallM]⟩, .inr ⟨by intro m hm; simp [msg0] at hm; subst hm; simp [okM], rfl⟩⟩
theorem size0 : sizeM msg0 = 14 := rfl
theorem wide0 : ∀ x ∈ room0, wideP x := by intro x hx; simp [room0] at hx; rcases hx with rfl | rfl <;> simp [wideP]
theorem meet0 : noMeet room0 := by unfold noMeet room0; simp [com]; intro _ _; decide
theorem stream0 : streamM msg0 = [0, 0, 0, 1, 0, 0, 0, 3, 0, 0, 0, 2, 97, 98] := by decide
theorem lay0 : IsLay msg0 room0 0 (layL (streamM msg0) room0) :=
  .inr ⟨may0, .inr ⟨by decide, .inr ⟨⟨wide0, meet0⟩, .inr ⟨by rw [size0]; decide, rfl, rfl⟩⟩⟩⟩
theorem lay0_form : ∃ x y : List Nat, layL (streamM msg0) room0 = [(40, x), (0, y)] ∧ x.length = 20 ∧ x[3]? = some 4 ∧ x[11]? = some 30 := by
  rw [stream0]
  refine ⟨blockL [0, 0, 0, 1] (0, 30) 20, _, rfl, block_len (by decide), ?_, ?_⟩
  · unfold blockL sealL
    rw [List.getElem?_append_left (by simp [digs_len])]
    decide
  · unfold blockL sealL
    rw [List.getElem?_append_left (by simp [digs_len])]
    decide
/-- The two letters, in a marked block. -/
def twoB : Obj := .cells #[.int .u8 97, .int .u8 98] 5 (2, 3)
theorem byt_two (w : World) : Byt (w.alloc twoB) (w.alloc twoB).heap.size (some ⟨w.heap.size, 0, none⟩) 2 [97, 98] := by
  refine ⟨rfl, by decide, fun _ => ⟨w.heap.size, 0, rfl, by simp, fun j hj => ?_⟩⟩
  rw [Nat.zero_add, cell_of_row (w.alloc twoB) w.heap.size j #[.int .u8 97, .int .u8 98] 5 (2, 3) (heap_alloc_new w _)]
  have h : j = 0 ∨ j = 1 := by simp at hj; omega
  rcases h with rfl | rfl <;> rfl
theorem Byt.at8 {w : World} {B n b o : Nat} {bs : List Nat} (h : Byt w B (some ⟨b, o, none⟩) n bs) {j v : Nat} (hj : bs[j]? = some v) : w.cell? ⟨b, o + j, none⟩ = some (.int .u8 v) := by
  obtain ⟨hlt, rfl⟩ := List.getElem?_eq_some_iff.mp hj
  obtain ⟨b', o', e, _, h2⟩ := h.at_ (by rw [← h.len]; omega)
  cases e
  exact h2 j hlt
/-- One message, made anew. -/
theorem ms_new (w : World) (Ai : Option Addr) (x : Mg) (ci : Nat) (hci : x.2.length ≤ ci) (hq : x.2.length ≤ 140737488355328) (h : Byt w w.heap.size Ai x.2.length x.2) :
    Ms (w.alloc (.cells #[.int .i64 x.1, .slice Ai x.2.length ci] 56)) (w.alloc (.cells #[.int .i64 x.1, .slice Ai x.2.length ci] 56)).heap.size (some ⟨w.heap.size, 0, none⟩) 1 [x] := by
  have hb := Bx.new w 56 #[.int .i64 x.1, .slice Ai x.2.length ci]
  have hw := below_new w (.cells #[.int .i64 x.1, .slice Ai x.2.length ci] 56)
  refine ⟨rfl, fun _ => ⟨w.heap.size, 0, rfl, by simp, fun i hi => ?_⟩⟩
  obtain rfl : i = 0 := by simp at hi; omega
  exact ⟨Ai, ci, hb.cell 0, hb.cell 1, hci, hq, (h.later hw).up hw.size⟩
theorem ex_new2 (w : World) (x y : Xt) : Ex (w.alloc (.cells #[.int .i64 x.1, .int .i64 x.2, .int .i64 y.1, .int .i64 y.2] 49)) 0 (w.heap.size + 1) (some ⟨w.heap.size, 0, none⟩) 2 [x, y] := by
  have hb := Bx.new w 49 #[.int .i64 x.1, .int .i64 x.2, .int .i64 y.1, .int .i64 y.2]
  refine ⟨rfl, fun _ => ⟨w.heap.size, 0, rfl, Nat.zero_le _, Nat.lt_succ_self _, fun j u hu => ?_⟩⟩
  rw [Nat.zero_add, hb.cell j]
  simpa [cl] using hu

/-- What header.Lay's contract says. -/
def LaySays : Prop := ∀ (A : Option Addr) (n C : Nat) (l : List Mg) (Ar : Option Addr) (nr Cr lo hi : Nat) (room : List Xt) (w : World) (hn : n ≤ 140737488355328) (hnr : nr ≤ 140737488355328) (h : Ms w w.heap.size A n l) (hr : Ex w lo hi Ar nr room) (hhi : hi ≤ w.heap.size) (hG : Gs w), Calls Tryd.prog 15 #[.slice A n C, .slice Ar nr Cr] w fun e w' => ∃ A' C' k z out, e = .returned (.tuple #[.slice A' k C', .int .i64 z]) ∧ IsLay l room z out ∧ out.length = k ∧ Ms w' w'.heap.size A' k out ∧ Below w.heap.size w w'

set_option maxHeartbeats 1000000 in
set_option maxRecDepth 100000 in
theorem lives8_of (hlay : LaySays) (w : World) (hG : Gs w) : Calls Tryd.prog 10 #[] w fun e w' => e = .returned (.bool true) ∧ Below w.heap.size w w' := by
  have HG := Lib.hid hG
  have HLAY := Lib.hid hlay
  clear hG hlay
  have hcv : ∀ W : World, (convert 31 31 (.slice (some ⟨W.heap.size, 0, none⟩) 2 2)).run Tryd.prog (W.alloc (.cells #[.int .u8 97, .int .u8 98] 5)) = .ok (.slice (some ⟨W.heap.size, 0, none⟩) 2 2) (W.alloc (.cells #[.int .u8 97, .int .u8 98] 5 (2, 3))) :=
    fun W => Lib.run_convert_bytes_const W 31 5 #[.int .u8 97, .int .u8 98] 2 2 Tryd.underlying31 Tryd.underlying5
  have HMS := Lib.hid (fun (W : World) => show Ms ((W.alloc (.cells #[.int .u8 97, .int .u8 98] 5 (2, 3))).alloc (.cells #[.int .i64 3, .slice (some ⟨W.heap.size, 0, none⟩) 2 2] 56)) ((W.alloc (.cells #[.int .u8 97, .int .u8 98] 5 (2, 3))).alloc (.cells #[.int .i64 3, .slice (some ⟨W.heap.size, 0, none⟩) 2 2] 56)).heap.size (some ⟨W.heap.size + 1, 0, none⟩) 1 msg0 from by
    have h := ms_new (W.alloc twoB) (some ⟨W.heap.size, 0, none⟩) (3, [97, 98]) 2 (by decide) (by decide) (byt_two W)
    have e : (W.alloc twoB).heap.size = W.heap.size + 1 := size_alloc _ _
    have e2 : (some ⟨(W.alloc twoB).heap.size, 0, none⟩ : Option Addr) = some ⟨W.heap.size + 1, 0, none⟩ := by rw [e]
    exact e2 ▸ h)
  have HBE := Lib.hid (fun (W : World) => show Below W.heap.size W ((W.alloc (.cells #[.int .u8 97, .int .u8 98] 5 (2, 3))).alloc (.cells #[.int .i64 3, .slice (some ⟨W.heap.size, 0, none⟩) 2 2] 56)) from below_more (below_new W _) (below_new _ _))
  have HSZ := Lib.hid (size_any (some ⟨w.heap.size + 1, 0, none⟩) 1 1 msg0 _ (by decide) (HMS.out w))
  go_enter Tryd.func10, Tryd.ntmps10
  go_wp2_with (go_at_call 11; refine HSZ.out.mono ?_; rintro _ w2 ⟨⟨z, s, rfl, hmy, hzs⟩, hb⟩; refine Hid.out ?_)
  obtain rfl : z = 0 := hmy.uniq may0
  obtain rfl : s = 14 := by
    rcases hzs with ⟨h, _⟩ | ⟨_, h⟩
    · exact absurd rfl h
    · rw [h, size0]; rfl
  have HB2 := Lib.hid (below_more (HBE.out w) hb)
  clear hmy hzs hb HSZ
  have hms2 := HMS.out w2
  have hbe2 := HBE.out w2
  obtain ⟨W1, hW1⟩ : ∃ W1 : World, ((w2.alloc (.cells #[.int .u8 97, .int .u8 98] 5 (2, 3))).alloc (.cells #[.int .i64 3, .slice (some ⟨w2.heap.size, 0, none⟩) 2 2] 56)) = W1 := ⟨_, rfl⟩
  have hws : W1.heap.size = w2.heap.size + 1 + 1 := by rw [← hW1, size_alloc, size_alloc]
  rw [hW1] at hms2 hbe2
  have hex := ex_new2 W1 (40, 20) (0, 30)
  have hbx := below_new W1 (.cells #[.int .i64 40, .int .i64 20, .int .i64 0, .int .i64 30] 49)
  have HB3 := Lib.hid (below_more HB2.out (below_more hbe2 hbx))
  have HLY := Lib.hid (HLAY.out (some ⟨w2.heap.size + 1, 0, none⟩) 1 1 msg0 (some ⟨W1.heap.size, 0, none⟩) 2 2 0 (W1.heap.size + 1) room0 (W1.alloc (.cells #[.int .i64 40, .int .i64 20, .int .i64 0, .int .i64 30] 49)) (by decide) (by decide) ((hms2.later hbx).up hbx.size) hex (Nat.le_of_eq (size_alloc _ _).symm) (HG.out.later HB3.out (Nat.le_refl _)))
  rw [hws, ← hW1] at HLY
  rw [← hW1] at HB3
  clear hms2 hbe2 hex hbx hW1 hws
  refine go_on ?_
  go_wp2_with (go_at_call 15; refine HLY.out.mono ?_; rintro _ w4 ⟨A4, C4, k4, z4, o4, rfl, hly, hl4, hms4, hb⟩; refine Hid.out ?_)
  obtain ⟨hz, ho⟩ := hly.uniq lay0
  subst hz
  obtain ⟨bx, by_, hform, hxl, hx3, hx11⟩ := lay0_form
  rw [hform] at ho
  subst ho
  obtain rfl : k4 = 2 := by rw [← hl4]; rfl
  have HB4 := Lib.hid (by have h := hb; exact h : Below _ _ w4)
  obtain ⟨b, o, x, Ai, ci, rfl, hb1, hx, c0, c1, hci, hmi, hyi⟩ := hms4.get (i := 0) (by decide)
  obtain rfl : x = (40, bx) := by simpa using hx.symm
  obtain ⟨bi, oi, rfl, hbi, -⟩ := hyi.at_ (by rw [hxl]; decide)
  have d3 := Byt.at8 hyi hx3
  have d11 := Byt.at8 hyi hx11
  simp only [hxl, Nat.zero_mul, Nat.add_zero] at c0 c1
  have HBF := Lib.hid (below_more HB3.out HB4.out)
  clear hly hl4 hms4 hb hx hci hmi hyi HLY hxl hx3 hx11 hform
  refine go_on ?_
  go_wp2
  go_ret
  exact ⟨rfl, HBF.out⟩
end Go.Proofs.YtcgapkepbnbabaaDoor.X5
