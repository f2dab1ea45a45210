/- lives, HeaderSizes, HeaderRoom. -/
import Derived.Test.YtcgapkepbnbabaaDoorLj
import Derived.Lib.SlBytesConst
namespace Go.Proofs.YtcgapkepbnbabaaDoor.X5
set_option linter.unusedVariables false
set_option linter.unusedSimpArgs false
open Go.RowKit Wd Ty9

def msg0 : List Mg := [(3, [97, 98])]
def room0 : List Xt := [(40, 20), (0, 30)]
theorem may0 : IsMay msg0 0 := .inr ⟨⟨by decide, by intro m hm; simp [msg0] at hm; subst hm; simp [smallM]⟩, .inr ⟨by intro m hm; simp [msg0] at hm; subst hm; simp [okM], rfl⟩⟩
theorem size0 : sizeM msg0 = 14 := rfl
theorem wide0 : ∀ x ∈ room0, wideP x := by intro x hx; simp [room0] at hx; rcases hx with rfl | rfl <;> simp [wideP]
theorem meet0 : noMeet room0 := by unfold noMeet room0; simp [com]; intro _ _; decide
theorem stream0 : streamM msg0 = [0, 0, 0, 1, 0, 0, 0, 3, 0, 0, 0, 2, 97, 98] := by decide
theorem lay0 : IsLay msg0 room0 0 (layL (streamM msg0) room0) :=
  .inr ⟨may0, .inr ⟨by decide, .inr ⟨⟨wide0, meet0⟩, .inr ⟨by rw [size0]; decide, rfl, rfl⟩⟩⟩⟩
theorem lay0_form : ∃ x y : List Nat, layL (streamM msg0) room0 = [(40, x), (0, y)] ∧ x.length = 20 ∧ x[3]? = some 4 ∧ x[11]? = some 30 := by
  rw [stream0]
  refine ⟨blockL [0, 0, 0, 1] (0, 30) 20, _, rfl, block_len (by decide), ?_, ?_⟩
  · unfold blockL sealL
    rw [List.getElem?_append_left (by simp [digs_len])]
    decide
  · unfold blockL sealL
    rw [List.getElem?_append_left (by simp [digs_len])]
    decide
/-- The two letters, in a marked block. -/
def twoB : Obj := .cells #[.int .u8 97, .int .u8 98] 5 (2, 3)
theorem byt_two (w : World) : Byt (w.alloc twoB) (w.alloc twoB).heap.size (some ⟨w.heap.size, 0, none⟩) 2 [97, 98] := by
  refine ⟨rfl, by decide, fun _ => ⟨w.heap.size, 0, rfl, by simp, fun j hj => ?_⟩⟩
  rw [Nat.zero_add, cell_of_row (w.alloc twoB) w.heap.size j #[.int .u8 97, .int .u8 98] 5 (2, 3) (heap_alloc_new w _)]
  have h : j = 0 ∨ j = 1 := by simp at hj; omega
  rcases h with rfl | rfl <;> rfl
theorem Byt.at8 {w : World} {B n b o : Nat} {bs : List Nat} (h : Byt w B (some ⟨b, o, none⟩) n bs) {j v : Nat} (hj : bs[j]? = some v) : w.cell? ⟨b, o + j, none⟩ = some (.int .u8 v) := by
  obtain ⟨hlt, rfl⟩ := List.getElem?_eq_some_iff.mp hj
  obtain ⟨b', o', e, _, h2⟩ := h.at_ (by rw [← h.len]; omega)
  cases e
  exact h2 j hlt
/-- One message, made anew. -/
theorem ms_new (w : World) (Ai : Option Addr) (x : Mg) (ci : Nat) (hci : x.2.length ≤ ci) (hq : x.2.length ≤ 140737488355328) (h : Byt w w.heap.size Ai x.2.length x.2) :
    Ms (w.alloc (.cells #[.int .i64 x.1, .slice Ai x.2.length ci] 56)) (w.alloc (.cells #[.int .i64 x.1, .slice Ai x.2.length ci] 56)).heap.size (some ⟨w.heap.size, 0, none⟩) 1 [x] := by
  have hb := Bx.new w 56 #[.int .i64 x.1, .slice Ai x.2.length ci]
  have hw := below_new w (.cells #[.int .i64 x.1, .slice Ai x.2.length ci] 56)
  refine ⟨rfl, fun _ => ⟨w.heap.size, 0, rfl, by simp, fun i hi => ?_⟩⟩
  obtain rfl : i = 0 := by simp at hi; omega
  exact ⟨Ai, ci, hb.cell 0, hb.cell 1, hci, hq, (h.later hw).up hw.size⟩
theorem ex_new2 (w : World) (x y : Xt) : Ex (w.alloc (.cells #[.int .i64 x.1, .int .i64 x.2, .int .i64 y.1, .int .i64 y.2] 49)) 0 (w.heap.size + 1) (some ⟨w.heap.size, 0, none⟩) 2 [x, y] := by
  have hb := Bx.new w 49 #[.int .i64 x.1, .int .i64 x.2, .int .i64 y.1, .int .i64 y.2]
  refine ⟨rfl, fun _ => ⟨w.heap.size, 0, rfl, Nat.zero_le _, Nat.lt_succ_self _, fun j u hu => ?_⟩⟩
  rw [Nat.zero_add, hb.cell j]
  simpa [cl] using hu

/-- What header.Lay's contract says. -/
def LaySays : Prop := ∀ (A : Option Addr) (n C : Nat) (l : List Mg) (Ar : Option Addr) (nr Cr lo hi : Nat) (room : List Xt) (w : World) (hn : n ≤ 140737488355328) (hnr : nr ≤ 140737488355328) (h : Ms w w.heap.size A n l) (hr : Ex w lo hi Ar nr room) (hhi : hi ≤ w.heap.size) (hG : Gs w), Calls Tryd.prog 15 #[.slice A n C, .slice Ar nr Cr] w fun e w' => ∃ A' C' k z out, e = .returned (.tuple #[.slice A' k C', .int .i64 z]) ∧ IsLay l room z out ∧ out.length = k ∧ Ms w' w'.heap.size A' k out ∧ Below w.heap.size w w'

set_option maxHeartbeats 1000000 in
set_option maxRecDepth 100000 in
theorem lives8_of (hlay : LaySays) (w : World) (hG : Gs w) : Calls Tryd.prog 10 #[] w fun e w' => e = .returned (.bool true) ∧ Below w.heap.size w w' := by
  have HG := Lib.hid hG
  have HLAY := Lib.hid hlay
  clear hG hlay
  have hcv : ∀ W : World, (convert 31 31 (.slice (some ⟨W.heap.size, 0, none⟩) 2 2)).run Tryd.prog (W.alloc (.cells #[.int .u8 97, .int .u8 98] 5)) = .ok (.slice (some ⟨W.heap.size, 0, none⟩) 2 2) (W.alloc (.cells #[.int .u8 97, .int .u8 98] 5 (2, 3))) :=
    fun W => Lib.run_convert_bytes_const W 31 5 #[.int .u8 97, .int .u8 98] 2 2 Tryd.underlying31 Tryd.underlying5
  have HMS := Lib.hid (fun (W : World) => show Ms ((W.alloc (.cells #[.int .u8 97, .int .u8 98] 5 (2, 3))).alloc (.cells #[.int .i64 3, .slice (some ⟨W.heap.size, 0, none⟩) 2 2] 56)) ((W.alloc (.cells #[.int .u8 97, .int .u8 98] 5 (2, 3))).alloc (.cells #[.int .i64 3, .slice (some ⟨W.heap.size, 0, none⟩) 2 2] 56)).heap.size (some ⟨W.heap.size + 1, 0, none⟩) 1 msg0 from by
    have h := ms_new (W.alloc twoB) (some ⟨W.heap.size, 0, none⟩) (3, [97, 98]) 2 (by decide) (by decide) (byt_two W)
    have e : (W.alloc twoB).heap.size = W.heap.size + 1 := size_alloc _ _
    have e2 : (some ⟨(W.alloc twoB).heap.size, 0, none⟩ : Option Addr) = some ⟨W.heap.size + 1, 0, none⟩ := by rw [e]
    exact e2 ▸ h)
  have HBE := Lib.hid (fun (W : World) => show Below W.heap.size W ((W.alloc (.cells #[.int .u8 97, .int .u8 98] 5 (2, 3))).alloc (.cells #[.int .i64 3, .slice (some ⟨W.heap.size, 0, none⟩) 2 2] 56)) from below_more (below_new W _) (below_new _ _))
  have HSZ := Lib.hid (size_any (some ⟨w.heap.size + 1, 0, none⟩) 1 1 msg0 _ (by decide) (HMS.out w))
  go_enter Tryd.func10, Tryd.ntmps10
  go_wp2_with (go_at_call 11; refine HSZ.out.mono ?_; rintro _ w2 ⟨⟨z, s, rfl, hmy, hzs⟩, hb⟩; refine Hid.out ?_)
  obtain rfl : z = 0 := hmy.uniq may0
  obtain rfl : s = 14 := by
    rcases hzs with ⟨h, _⟩ | ⟨_, h⟩
    · exact absurd rfl h
    · rw [h, size0]; rfl
  have HB2 := Lib.hid (below_more (HBE.out w) hb)
  clear hmy hzs hb HSZ
  have hms2 := HMS.out w2
  have hbe2 := HBE.out w2
  obtain ⟨W1, hW1⟩ : ∃ W1 : World, ((w2.alloc (.cells #[.int .u8 97, .int .u8 98] 5 (2, 3))).alloc (.cells #[.int .i64 3, .slice (some ⟨w2.heap.size, 0, none⟩) 2 2] 56)) = W1 := ⟨_, rfl⟩
  have hws : W1.heap.size = w2.heap.size + 1 + 1 := by rw [← hW1, size_alloc, size_alloc]
  rw [hW1] at hms2 hbe2
  have hex := ex_new2 W1 (40, 20) (0, 30)
  have hbx := below_new W1 (.cells #[.int .i64 40, .int .i64 20, .int .i64 0, .int .i64 30] 49)
  have HB3 := Lib.hid (below_more HB2.out (below_more hbe2 hbx))
  have HLY := Lib.hid (HLAY.out (some ⟨w2.heap.size + 1, 0, none⟩) 1 1 msg0 (some ⟨W1.heap.size, 0, none⟩) 2 2 0 (W1.heap.size + 1) room0 (W1.alloc (.cells #[.int .i64 40, .int .i64 20, .int .i64 0, .int .i64 30] 49)) (by decide) (by decide) ((hms2.later hbx).up hbx.size) hex (Nat.le_of_eq (size_alloc _ _).symm) (HG.out.later HB3.out (Nat.le_refl _)))
  rw [hws, ← hW1] at HLY
  rw [← hW1] at HB3
  clear hms2 hbe2 hex hbx hW1 hws
  refine go_on ?_
  go_wp2_with (go_at_call 15; refine HLY.out.mono ?_; rintro _ w4 ⟨A4, C4, k4, z4, o4, rfl, hly, hl4, hms4, hb⟩; refine Hid.out ?_)
  obtain ⟨hz, ho⟩ := hly.uniq lay0
  subst hz
  obtain ⟨bx, by_, hform, hxl, hx3, hx11⟩ := lay0_form
  rw [hform] at ho
  subst ho
  obtain rfl : k4 = 2 := by rw [← hl4]; rfl
  have HB4 := Lib.hid (by have h := hb; exact h : Below _ _ w4)
  obtain ⟨b, o, x, Ai, ci, rfl, hb1, hx, c0, c1, hci, hmi, hyi⟩ := hms4.get (i := 0) (by decide)
  obtain rfl : x = (40, bx) := by simpa using hx.symm
  obtain ⟨bi, oi, rfl, hbi, -⟩ := hyi.at_ (by rw [hxl]; decide)
  have d3 := Byt.at8 hyi hx3
  have d11 := Byt.at8 hyi hx11
  simp only [hxl, Nat.zero_mul, Nat.add_zero] at c0 c1
  have HBF := Lib.hid (below_more HB3.out HB4.out)
  clear hly hl4 hms4 hb hx hci hmi hyi HLY hxl hx3 hx11 hform
  refine go_on ?_
  go_wp2
  go_ret
  exact ⟨rfl, HBF.out⟩

/-- What the law's examples answer. -/
def LivesSays : Prop := ∀ (w : World), Gs w → Calls Tryd.prog 10 #[] w fun e w' => e = .returned (.bool true) ∧ Below w.heap.size w w'
/-- No extents. -/
theorem ex_none (w : World) : Ex w 0 w.heap.size none 0 [] := ⟨rfl, fun h => absurd h (Nat.lt_irrefl _)⟩
theorem row_len {w : World} {B : Nat} {V : Value} {bs : List Nat} (h : RowB w B V bs) : ∃ A c, V = .slice A bs.length c := by
  rcases Nat.eq_zero_or_pos bs.length with h0 | h0
  · rcases h.own.2 with ⟨hv, _⟩ | ⟨g, cap, cur, hv, _⟩
    · exact ⟨none, 0, by rw [hv, h0]⟩
    · exact ⟨_, _, hv⟩
  · obtain ⟨g, c, hv, _⟩ := h.own.form h0
    exact ⟨_, _, hv⟩
set_option maxHeartbeats 2000000 in
set_option maxRecDepth 100000 in
theorem sizes_of (hlv : LivesSays) (w : World) (hG : Gs w) (A : Option Addr) (n C : Nat) (l : List Mg) (hn : (n + 1) * 32 ≤ 140737488355328) (hA : A = none → C = 0) (h : Ms w w.heap.size A n l) :
    Calls Tryd.prog 3 #[.slice A n C] w fun e w' => e = .returned (.bool true) ∧ Below w.heap.size w w' := by
  have HG := Lib.hid hG
  have HLV := Lib.hid hlv
  have HM := Lib.hid h
  have hl := h.len
  have HH := Lib.hid (heavy_any A n C l none 0 0 0 w.heap.size [] w (by omega) (by decide) h (ex_none w) (Nat.le_refl _))
  have HLEN := Lib.hid hl
  clear h hG hlv hA
  go_enter Tryd.func3, Tryd.ntmps3
  go_wp2_with (go_at_call 9; refine HH.out.mono ?_; rintro _ w1 ⟨⟨r, rfl⟩, hb⟩; refine Hid.out ?_)
  have HB1 := Lib.hid hb
  have HLV1 := Lib.hid (HLV.out w1 (HG.out.later hb (Nat.le_refl _)))
  have HM1 := Lib.hid ((HM.out.later hb).up hb.size)
  clear hb HH
  by_cases hc : r = true ∧ n ≤ 65536
  · obtain ⟨rfl, hc⟩ := hc
    have hc2 : (n : Int) ≤ 65536 := by omega
    refine go_on ?_
    go_wp2_with (go_at_call 10; refine HLV1.out.mono ?_; rintro _ w2 ⟨rfl, hb⟩; refine Hid.out ?_)
    have HB2 := Lib.hid (below_more HB1.out hb)
    clear hb
    refine go_on ?_
    go_wp2
    go_ret
    exact ⟨rfl, HB2.out⟩
  · have hskip : r = false ∨ (r = true ∧ ¬ (n : Int) ≤ 65536) := by
      cases r
      · exact .inl rfl
      · exact .inr ⟨rfl, fun e => hc ⟨rfl, by omega⟩⟩
    have HSZ := Lib.hid (size_any A n C l w1 (by omega) HM1.out)
    refine go_on ?_
    rcases hskip with rfl | ⟨rfl, hgt⟩
    all_goals
      go_wp2_with (go_at_call 11; refine HSZ.out.mono ?_; rintro _ w2 ⟨⟨z, s, rfl, hmy, hzs⟩, hb⟩; refine Hid.out ?_)
      have HMY := Lib.hid hmy
      have HZS := Lib.hid hzs
      have HB2 := Lib.hid (below_more HB1.out hb)
      have HM2 := Lib.hid ((HM1.out.later hb).up hb.size)
      have HP2 := Lib.hid (plain8_any A n C l w2 (by omega) HM2.out)
      clear hb hmy hzs HSZ
      refine go_on ?_
      go_wp2_with (go_at_call 13; refine HP2.out.mono ?_; rintro _ w3 ⟨V3, rfl, how3⟩; refine Hid.out ?_)
      obtain ⟨A3, C3, hV⟩ := how3.form
      rw [HLEN.out] at hV
      subst hV
      have HB3 := Lib.hid (below_more HB2.out how3.be)
      have HM3 := Lib.hid ((HM2.out.later how3.be).up how3.be.size)
      have HRM := Lib.hid (rmay8_any A3 n C3 l w3 (by omega) (how3.ms HLEN.out))
      clear how3 HP2
      refine go_on ?_
      go_wp2_with (go_at_call 12; refine HRM.out.mono ?_; rintro _ w4 ⟨⟨z2, rfl, hmy2⟩, hb⟩; refine Hid.out ?_)
      obtain rfl := hmy2.uniq HMY.out
      have HB4 := Lib.hid (below_more HB3.out hb)
      have HM4 := Lib.hid ((HM3.out.later hb).up hb.size)
      have HLV4 := Lib.hid (HLV.out w4 (HG.out.later HB4.out (Nat.le_refl _)))
      clear hb hmy2 HRM
      by_cases hz : z2 = 0
      · subst hz
        obtain rfl : s = (sizeM l : Int) := by
          rcases HZS.out with ⟨h, _⟩ | ⟨_, h⟩
          · exact absurd rfl h
          · exact h
        have HP4 := Lib.hid (plain8_any A n C l w4 (by omega) HM4.out)
        refine go_on ?_
        go_wp2_with (go_at_call 13; refine HP4.out.mono ?_; rintro _ w5 ⟨V5, rfl, how5⟩; refine Hid.out ?_)
        obtain ⟨A5, C5, hV⟩ := how5.form
        rw [HLEN.out] at hV
        subst hV
        have HB5 := Lib.hid (below_more HB4.out how5.be)
        have HST := Lib.hid (rstream_any A5 n C5 l w5 (how5.ms HLEN.out) HMY.out)
        clear how5 HP4
        refine go_on ?_
        go_wp2_with (go_at_call 14; refine HST.out.mono ?_; rintro _ w6 ⟨V6, rfl, hrow, hb⟩; refine Hid.out ?_)
        obtain ⟨A6, C6, hV⟩ := row_len hrow
        rw [stream_len] at hV
        subst hV
        have HB6 := Lib.hid (below_more HB5.out hb)
        have HLV6 := Lib.hid (HLV.out w6 (HG.out.later HB6.out (Nat.le_refl _)))
        clear hrow hb HST
        generalize sizeM l = sz at *
        have ss : ((sz : Int) == (sz : Int)) = true := by simp
        refine go_on ?_
        go_wp2_with (go_at_call 10; refine HLV6.out.mono ?_; rintro _ w7 ⟨rfl, hb⟩; refine Hid.out ?_)
        have HB7 := Lib.hid (below_more HB6.out hb)
        clear hb
        refine go_on ?_
        go_wp2
        go_ret
        exact ⟨rfl, HB7.out⟩
      · obtain rfl : s = 0 := by
          rcases HZS.out with ⟨_, h⟩ | ⟨h, _⟩
          · exact h
          · exact absurd h hz
        have hzb : (z2 != 0) = true := by simpa using hz
        have hzb2 : (z2 == 0) = false := by simpa using hz
        have hzz : (z2 == z2) = true := by simp
        refine go_on ?_
        go_wp2_with (go_at_call 10; refine HLV4.out.mono ?_; rintro _ w5 ⟨rfl, hb⟩; refine Hid.out ?_)
        have HB5 := Lib.hid (below_more HB4.out hb)
        clear hb
        refine go_on ?_
        go_wp2
        go_ret
        exact ⟨rfl, HB5.out⟩

theorem cap_int {x : Xt} (h : wideP x) : (capN x : Int) = x.2 - 16 := by unfold wideP at h; unfold capN; omega
theorem sum_succ {room : List Xt} {k : Nat} {x : Xt} (h : room[k]? = some x) : sumCap (room.take (k + 1)) = sumCap (room.take k) + capN x := by
  rw [take_snoc h]
  unfold sumCap
  rw [List.map_append, List.sum_append]
  simp
theorem sum_bound {room : List Xt} (h : ∀ x ∈ room, wideP x) (k : Nat) : sumCap (room.take k) ≤ room.length * 4194304 := by
  refine Nat.le_trans (sumCap_le k) ?_
  unfold sumCap
  induction room with
  | nil => simp
  | cons x r ih =>
    have h1 := h x (by simp)
    have h2 := ih (fun y hy => h y (by simp [hy]))
    have h3 : capN x ≤ 4194304 := by unfold wideP at h1; unfold capN; omega
    rw [List.map_cons, List.sum_cons, List.length_cons]
    omega
/-- What the blocks of a stream are. -/
theorem layL_facts : ∀ (room : List Xt) (s : List Nat), (∀ x ∈ room, wideP x) → s.length ≤ sumCap room →
    (layL s room).length ≤ room.length ∧ (∀ (i : Nat) (y : Mg), (layL s room)[i]? = some y → ∃ x, room[i]? = some x ∧ y.1 = x.1 ∧ (y.2.length : Int) = x.2 ∧ sumCap (room.take i) < s.length) ∧ s.length ≤ sumCap (room.take (layL s room).length)
  | [], s, _, hs => ⟨Nat.le_refl _, fun i y h => by simp [layL] at h, by simpa [layL, sumCap] using hs⟩
  | x :: r, s, hw, hs => by
    have hx := hw x (by simp)
    rw [layL]
    by_cases h0 : s = []
    · subst h0
      rw [if_pos rfl]
      exact ⟨Nat.zero_le _, fun i y h => by simp at h, Nat.zero_le _⟩
    · have hpos : 0 < s.length := List.length_pos_iff.mpr h0
      rw [if_neg h0]
      have hsum : sumCap (x :: r) = capN x + sumCap r := by simp [sumCap]
      obtain ⟨h1, h2, h3⟩ := layL_facts r (s.drop (capN x)) (fun y hy => hw y (by simp [hy])) (by rw [List.length_drop]; omega)
      rw [List.length_drop] at h2 h3
      refine ⟨by simp only [List.length_cons]; omega, fun i y hy => ?_, ?_⟩
      · cases i with
        | zero =>
          simp only [List.getElem?_cons_zero, Option.some.injEq] at hy
          subst hy
          refine ⟨x, rfl, rfl, ?_, ?_⟩
          · have hc := cap_int hx
            rw [block_len (by rw [List.length_take]; unfold wideP at hx; omega)]
            unfold wideP at hx
            omega
          · simpa [sumCap] using hpos
        | succ i =>
          rw [List.getElem?_cons_succ] at hy
          obtain ⟨x', e1, e2, e3, e4⟩ := h2 i y hy
          refine ⟨x', by simpa using e1, e2, e3, ?_⟩
          have : sumCap ((x :: r).take (i + 1)) = capN x + sumCap (r.take i) := by simp [sumCap]
          omega
      · have : sumCap ((x :: r).take ((layL (s.drop (capN x)) r).length + 1)) = capN x + sumCap (r.take (layL (s.drop (capN x)) r).length) := by simp [sumCap]
        simp only [List.length_cons]
        omega

set_option maxHeartbeats 4000000 in
set_option maxRecDepth 100000 in
theorem room_of (hlv : LivesSays) (hlay : LaySays) (w : World) (hG : Gs w) (A : Option Addr) (n C : Nat) (l : List Mg) (hn : (n + 1) * 32 ≤ 140737488355328) (hA : A = none → C = 0) (h : Ms w w.heap.size A n l)
    (Ar : Option Addr) (nr Cr : Nat) (room : List Xt) (hnr : (nr + 1) * 16 ≤ 140737488355328) (hAr : Ar = none → Cr = 0) (hr : Ex w 0 w.heap.size Ar nr room) :
    Calls Tryd.prog 5 #[.slice A n C, .slice Ar nr Cr] w fun e w' => e = .returned (.bool true) ∧ Below w.heap.size w w' := by
  have HG := Lib.hid hG
  have HLV := Lib.hid hlv
  have HM := Lib.hid h
  have HX := Lib.hid hr
  have hl := h.len
  have hrl := hr.len
  have HH := Lib.hid (heavy_any A n C l Ar nr Cr 0 w.heap.size room w (by omega) (by omega) h hr (Nat.le_refl _))
  have HSZ := Lib.hid (fun (W : World) (hb : Below w.heap.size w W) => size_any A n C l W (by omega) ((HM.out.later hb).up hb.size))
  have HLY := Lib.hid (fun (W : World) (hb : Below w.heap.size w W) => hlay A n C l Ar nr Cr 0 w.heap.size room W (by omega) (by omega) ((HM.out.later hb).up hb.size) (HX.out.later hb (Nat.le_refl _)) hb.size (HG.out.later hb (Nat.le_refl _)))
  have HRL := Lib.hid hrl
  have HNR := Lib.hid hnr
  clear h hG hlv hlay hA hAr hr hl hrl hn hnr
  go_enter Tryd.func5, Tryd.ntmps5
  go_wp2_with (go_at_call 9; refine HH.out.mono ?_; rintro _ w1 ⟨⟨r, rfl⟩, hb⟩; refine Hid.out ?_)
  have HB1 := Lib.hid hb
  have HLV1 := Lib.hid (HLV.out w1 (HG.out.later hb (Nat.le_refl _)))
  clear hb HH
  cases r
  case true =>
    refine go_on ?_
    go_wp2_with (go_at_call 10; refine HLV1.out.mono ?_; rintro _ w2 ⟨rfl, hb⟩; refine Hid.out ?_)
    have HB2 := Lib.hid (below_more HB1.out hb)
    clear hb
    refine go_on ?_
    go_wp2
    go_ret
    exact ⟨rfl, HB2.out⟩
  case false =>
    have HSZ1 := Lib.hid (HSZ.out w1 HB1.out)
    refine go_on ?_
    go_wp2_with (go_at_call 11; refine HSZ1.out.mono ?_; rintro _ w2 ⟨⟨z, s, rfl, hmy, hzs⟩, hb⟩; refine Hid.out ?_)
    have HMY := Lib.hid hmy
    have HZS := Lib.hid hzs
    have HB2 := Lib.hid (below_more HB1.out hb)
    have HLY2 := Lib.hid (HLY.out w2 HB2.out)
    clear hb hmy hzs HSZ1 HSZ HLV1
    refine go_on ?_
    go_wp2_with (go_at_call 15; refine HLY2.out.mono ?_; rintro _ w3 ⟨A3, C3, k, f, out, rfl, hly, hlen, hms, hb⟩; refine Hid.out ?_)
    have HIS := Lib.hid hly
    have HLEN := Lib.hid hlen
    have HMS := Lib.hid hms
    have HB3 := Lib.hid (below_more HB2.out hb)
    have HLV3 := Lib.hid (HLV.out w3 (HG.out.later HB3.out (Nat.le_refl _)))
    clear hb hly hlen hms HLY2 HLY
    by_cases hz : z = 0
    · subst hz
      have hs : s = (sizeM l : Int) := by
        rcases HZS.out with ⟨h, _⟩ | ⟨_, h⟩
        · exact absurd rfl h
        · exact h
      by_cases hf : f = 2 ∨ f = 3
      · obtain rfl : k = 0 := by
          rw [← HLEN.out]
          rcases HIS.out with ⟨z', h1, h2, h3, h4⟩ | ⟨h1, ⟨_, _, h4⟩ | ⟨_, ⟨_, _, h4⟩ | ⟨_, ⟨_, _, h4⟩ | ⟨_, h3, _⟩⟩⟩⟩
          · rw [h4]; rfl
          · rw [h4]; rfl
          · rw [h4]; rfl
          · rw [h4]; rfl
          · rw [h3] at hf; omega
        clear hs
        refine go_on ?_
        rcases hf with rfl | rfl
        all_goals
          go_wp2_with (go_at_call 10; refine HLV3.out.mono ?_; rintro _ w4 ⟨rfl, hb⟩; refine Hid.out ?_)
          have HB4 := Lib.hid (below_more HB3.out hb)
          clear hb
          refine go_on ?_
          go_wp2
          go_ret
          exact ⟨rfl, HB4.out⟩
      · have f2 : (f == 2) = false := by simp; omega
        have f3 : (f == 3) = false := by simp; omega
        have HTOT := Lib.hid (show nr ≤ 65536 ∧ (∀ x ∈ room, wideP x) ∧ ((sumCap room < sizeM l ∧ f = 7 ∧ k = 0) ∨ (sizeM l ≤ sumCap room ∧ f = 0 ∧ out = layL (streamM l) room)) by
          rcases HIS.out with ⟨z', h1, h2, h3, h4⟩ | ⟨h1, ⟨_, h3, h4⟩ | ⟨hrb, ⟨_, h3, h4⟩ | ⟨⟨hw, _⟩, ⟨h5, h3, h4⟩ | ⟨h5, h3, h4⟩⟩⟩⟩
          · exact absurd (h1.uniq HMY.out) h2
          · omega
          · omega
          · exact ⟨by rw [← HRL.out]; exact hrb, hw, .inl ⟨h5, h3, by rw [← HLEN.out, h4]; rfl⟩⟩
          · exact ⟨by rw [← HRL.out]; exact hrb, hw, .inr ⟨h5, h3, h4⟩⟩)
        clear hf
        have HS := Lib.hid hs
        clear hs
        refine go_on ?_
        go_wp2
        go_loopw [9, 10] (fun t i wr => ∃ (j T : Nat), t = .int .i64 T ∧ i = .int .i64 j ∧ j ≤ nr ∧ wr = w3 ∧ Hid (T = sumCap (room.take j))) (fun _ i _ => nr - (intOf i).toNat)
        case atStart => exact ⟨0, 0, rfl, rfl, Nat.zero_le _, rfl, Lib.hid (by simp [sumCap])⟩
        case round =>
          obtain ⟨j, T, rfl, rfl, hj, hwr, HT⟩ := hrel
          have hwr := hwr.symm
          subst hwr
          by_cases hlt : j < nr
          · have hltz : (j : Int) < (nr : Int) := by omega
            obtain ⟨b, o, rfl, hb1, hb2, -⟩ := HX.out.at_ (by have := HRL.out; omega)
            obtain ⟨c0, c1⟩ := HX.out.get rfl (i := j) (by have := HRL.out; omega)
            have hjr : j < room.length := by have := HRL.out; omega
            have hx : room[j]? = some room[j] := List.getElem?_eq_getElem hjr
            have hwx := HTOT.out.2.1 room[j] (List.getElem_mem hjr)
            rw [← HB3.out.cell (p := ⟨b, o + j * 2 + 1, none⟩) hb2] at c1
            clear c0
            generalize room[j]'_ = x at c1 hx hwx
            obtain ⟨xa, xs⟩ := x
            have hc := cap_int hwx
            have HTN := Lib.hid (show T + capN (xa, xs) = sumCap (room.take (j + 1)) by rw [sum_succ hx, HT.out])
            have hbnd := sum_bound HTOT.out.2.1 (j + 1)
            rw [← HTN.out, HRL.out] at hbnd
            have hnr := HTOT.out.1
            have hbnd : T + capN (xa, xs) ≤ 274877906944 := by omega
            have hT : (T : Int) + (xs - 16) = ((T + capN (xa, xs) : Nat) : Int) := by rw [Int.natCast_add, hc]
            generalize capN (xa, xs) = cp at *
            unfold wideP at hwx
            simp only at hc hwx c1
            obtain ⟨T2, hT2⟩ : ∃ T2, T + cp = T2 := ⟨_, rfl⟩
            rw [hT2] at hT hbnd HTN
            go_wp2
            go_roundw
            case rel => exact ⟨j + 1, T2, by first | rfl | (rw [← hT]) | (simp only [hT]) | go_num, by go_num, by omega, by first | rfl | trivial, HTN⟩
            case measure => simp [intOf]; omega
          · obtain rfl : j = nr := by omega
            have HTT := Lib.hid (show T = sumCap room by rw [HT.out, ← HRL.out, List.take_length])
            clear HT hlt hj
            rcases HTOT.out.2.2 with ⟨hlt7, rfl, rfl⟩ | ⟨hle, rfl, rfl⟩
            · have hgt : (s : Int) > (T : Int) := by rw [HS.out, HTT.out]; omega
              have hgt2 : (T : Int) < s := hgt
              clear hlt7
              go_wp2_with (go_at_call 10; refine HLV3.out.mono ?_; rintro _ w4 ⟨rfl, hb⟩; refine Hid.out ?_)
              have HB4 := Lib.hid (below_more HB3.out hb)
              clear hb
              refine go_on ?_
              go_wp2
              go_ret
              first | exact ⟨rfl, HB4.out⟩ | exact ⟨trivial, HB4.out⟩
            · have hgt : ¬ (s : Int) > (T : Int) := by rw [HS.out, HTT.out]; omega
              have hgt2 : ¬ (T : Int) < s := hgt
              obtain ⟨hf1, hf2, hf3⟩ := layL_facts room (streamM l) HTOT.out.2.1 (by rw [stream_len]; exact hle)
              rw [HLEN.out, HRL.out] at hf1
              rw [HLEN.out, stream_len] at hf3
              rw [stream_len] at hf2
              have HF := Lib.hid hf2
              have HE := Lib.hid hf3
              have hkn : ¬ (k : Int) > (j : Int) := by omega
              have hkn2 : ¬ (j : Int) < (k : Int) := hkn
              have hkn3 : decide ((j : Int) < (k : Int)) = false := by simp; omega
              clear hf2 hf3 hle
              have HJ := Lib.hid (show ∃ q, j = q from ⟨j, rfl⟩)
              go_wp2
              go_loopw [11, 12] (fun t i wr => ∃ (i' H : Nat), t = .int .i64 H ∧ i = .int .i64 i' ∧ i' ≤ k ∧ Below w3.heap.size w3 wr ∧ Hid (H = sumCap (room.take i'))) (fun _ i _ => k - (intOf i).toNat)
              case atStart => exact ⟨0, 0, rfl, rfl, Nat.zero_le _, Below.refl _ _, Lib.hid (by simp [sumCap])⟩
              case round =>
                obtain ⟨i', H, rfl, rfl, hi, hwr, HH⟩ := hrel
                have HBW := Lib.hid hwr
                have HB9 := Lib.hid (below_more HB3.out hwr)
                clear hwr
                by_cases hlt : i' < k
                · have hltz : (i' : Int) < (k : Int) := by omega
                  obtain ⟨bq, oq, y, Ai, ci, rfl, hbq, hy, d0, d1, -, -, -⟩ := HMS.out.get hlt
                  obtain ⟨x, hx, hyx, hyl, hsum⟩ := HF.out i' y hy
                  have hir : i' < room.length := by have := HRL.out; omega
                  obtain ⟨b, o, rfl, hb1, hb2, -⟩ := HX.out.at_ (by omega)
                  obtain ⟨c0, c1⟩ := HX.out.get rfl (i := i') hir
                  have hwx := HTOT.out.2.1 room[i'] (List.getElem_mem hir)
                  rw [← HB9.out.cell (p := ⟨b, o + i' * 2, none⟩) hb2] at c0
                  rw [← HBW.out.cell (p := ⟨bq, oq + i' * 2, none⟩) hbq] at d0
                  rw [← HBW.out.cell (p := ⟨bq, oq + i' * 2 + 1, none⟩) hbq] at d1
                  rw [← HB9.out.cell (p := ⟨b, o + i' * 2 + 1, none⟩) hb2] at c1
                  rw [List.getElem?_eq_getElem hir] at hx
                  have hx := Option.some.inj hx
                  rw [hx] at c0 c1 hwx
                  have hx : room[i']? = some x := by rw [List.getElem?_eq_getElem hir, hx]
                  have hc := cap_int hwx
                  have HTN := Lib.hid (show H + capN x = sumCap (room.take (i' + 1)) by rw [sum_succ hx, HH.out])
                  have hbnd := sum_bound HTOT.out.2.1 (i' + 1)
                  rw [← HTN.out, HRL.out] at hbnd
                  have hnr := HTOT.out.1
                  have hbnd : H + capN x ≤ 274877906944 := by omega
                  have hT : (H : Int) + (x.2 - 16) = ((H + capN x : Nat) : Int) := by rw [Int.natCast_add, hc]
                  rw [← HH.out] at hsum
                  have hge : decide ((H : Int) ≥ s) = false := by rw [HS.out]; simp; omega
                  have hge2 : ¬ (H : Int) ≥ s := by rw [HS.out]; omega
                  have hge3 : ¬ s ≤ (H : Int) := hge2
                  rw [hyx] at d0
                  clear hy
                  generalize y.2.length = q at d1 hyl
                  have hk2 : i' < j := by have := HRL.out; omega
                  have hj2 : (i' : Int) < (j : Int) := by omega
                  generalize capN x = cp at *
                  obtain ⟨xa, xs⟩ := x
                  unfold wideP at hwx
                  simp only at hc hwx c0 c1 d0 d1 hT hyl
                  subst hyl
                  obtain ⟨T2, hT2⟩ : ∃ T2, H + cp = T2 := ⟨_, rfl⟩
                  rw [hT2] at hT hbnd HTN
                  have e1 : (xa != xa) = false := by simp
                  have e2 : ((q : Int) != (q : Int)) = false := by simp
                  clear hyx hx hsum
                  go_wp2
                  go_quiet (fail)
                  go_wp2
                  go_roundw
                  case rel => exact ⟨i' + 1, T2, by first | rfl | (rw [← hT]) | (simp only [hT]) | go_num, by go_num, by omega, below_drewN HBW.out _, HTN⟩
                  case measure => simp [intOf]; omega
                · obtain rfl : i' = k := by omega
                  have hge : decide ((H : Int) ≥ s) = true := by rw [HS.out, HH.out]; have := HE.out; simp; omega
                  have hge2 : (H : Int) ≥ s := by rw [HS.out, HH.out]; have := HE.out; omega
                  have hge3 : s ≤ (H : Int) := hge2
                  clear HH hlt hi
                  go_wp2_with (go_at_call 10; refine (HLV.out wr (HG.out.later HB9.out (Nat.le_refl _))).mono ?_; rintro _ w4 ⟨rfl, hb⟩; refine Hid.out ?_)
                  have HB4 := Lib.hid (below_more HB9.out hb)
                  clear hb
                  refine go_on ?_
                  go_wp2
                  go_ret
                  first | exact ⟨rfl, HB4.out⟩ | exact ⟨trivial, HB4.out⟩
    · have hz2 : s = 0 ∧ f = z ∧ k = 0 := by
        refine ⟨?_, ?_, ?_⟩
        · rcases HZS.out with ⟨_, h⟩ | ⟨h, _⟩
          · exact h
          · exact absurd h hz
        · rcases HIS.out with ⟨z', h1, h2, h3, h4⟩ | ⟨h1, _⟩
          · exact h3.trans (h1.uniq HMY.out)
          · exact absurd (HMY.out.uniq h1) hz
        · rw [← HLEN.out]
          rcases HIS.out with ⟨z', h1, h2, h3, h4⟩ | ⟨h1, _⟩
          · rw [h4]; rfl
          · exact absurd (HMY.out.uniq h1) hz
      obtain ⟨rfl, rfl, rfl⟩ := hz2
      have hzb : (f != 0) = true := by simpa using hz
      have hzb2 : (f == 0) = false := by simpa using hz
      have hzz : (f == f) = true := by simp
      refine go_on ?_
      go_wp2_with (go_at_call 10; refine HLV3.out.mono ?_; rintro _ w4 ⟨rfl, hb⟩; refine Hid.out ?_)
      have HB4 := Lib.hid (below_more HB3.out hb)
      clear hb
      refine go_on ?_
      go_wp2
      go_ret
      exact ⟨rfl, HB4.out⟩
end Go.Proofs.YtcgapkepbnbabaaDoor.X5
