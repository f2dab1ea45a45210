/- header.Lay. -/
import Derived.Test.YtcgapkepbnbabaaDoorLg
namespace Go.Proofs.YtcgapkepbnbabaaDoor.X5
set_option linter.unusedVariables false
set_option linter.unusedSimpArgs false
open Go.RowKit Wd Ty9

theorem byt_pre8 {w : World} {B : Nat} {A : Option Addr} {m k : Nat} {bs : List Nat} (h : Byt w B A m bs) (hk : k ≤ m) : Byt w B A k (bs.take k) :=
  ⟨by rw [List.length_take, h.len]; omega, fun x hx => h.lt x (List.mem_of_mem_take hx), fun h0 => by
    obtain ⟨b, o, e, h1, h2⟩ := h.at_ (by omega)
    refine ⟨b, o, e, h1, fun j hj => ?_⟩
    rw [List.getElem_take]
    exact h2 j (by rw [List.length_take] at hj; omega)⟩
theorem byt_suf {w : World} {B b o m k c : Nat} {bs : List Nat} (h : Byt w B (some ⟨b, o, none⟩) m bs) (hk : k ≤ m) (hc : m ≤ c) : Byt w B (if c = k then some ⟨b, o, none⟩ else some ⟨b, o + k, none⟩) (m - k) (bs.drop k) :=
  ⟨by rw [List.length_drop, h.len], fun x hx => h.lt x (List.mem_of_mem_drop hx), fun h0 => by
    obtain ⟨b', o', e, h1, h2⟩ := h.at_ (by omega)
    cases e
    rw [if_neg (by omega)]
    refine ⟨b, o + k, rfl, h1, fun j hj => ?_⟩
    rw [List.length_drop] at hj
    rw [List.getElem_drop]
    have := h2 (k + j) (by omega)
    rwa [← Nat.add_assoc] at this⟩
theorem block_info : (Tryd.prog.info? 47).map (fun i => (i.zero, i.size, i.bytes)) = some (some (.agg #[.int .i64 0, .slice none 0 0]), 2, 32) := by kernel_rfl

theorem row_cap8 {w : World} {base : Nat} {V : Value} {bs : List Nat} (h : RowB w base V bs) : ∃ A c, V = .slice A bs.length c ∧ bs.length ≤ c ∧ Byt w w.heap.size A bs.length bs := by
  obtain ⟨A, c, rfl, hby⟩ := h.byt
  refine ⟨A, c, rfl, ?_, hby⟩
  rcases h.own.2 with ⟨hv, h0⟩ | ⟨g, cap, cur, hv, _, _, hc, _⟩
  · injection hv with e1 e2 e3; omega
  · injection hv with e1 e2 e3; omega
theorem ob_nil {e : TypeId} {w w2 : World} (hb : Below w.heap.size w w2) : Ob e w (.slice none 0 0) [] w2.heap.size w2 := ((Ob.nil e w).below hb).wide
/-- What is left of the stream. -/
structure Qst (w6 : World) (S : List Nat) (room : List Xt) (j : Nat) (Aq : Option Addr) (q cq : Nat) : Prop where
  len : (restAt S room j).length = q
  cap : q ≤ cq
  byt : Byt w6 w6.heap.size Aq q (restAt S room j)
  tk : ((layL S room).take j).length = j
def lenV : Value → Nat
  | .slice _ n _ => n
  | _ => 0

set_option maxHeartbeats 8000000 in
set_option maxRecDepth 100000 in
theorem lay_own (A : Option Addr) (n C : Nat) (l : List Mg) (Ar : Option Addr) (nr Cr lo hi : Nat) (room : List Xt) (w : World) (hn : n ≤ 140737488355328) (hnr : nr ≤ 140737488355328) (h : Ms w w.heap.size A n l) (hr : Ex w lo hi Ar nr room) (hhi : hi ≤ w.heap.size) (hG : Gs w) :
    Calls Tryd.prog 15 #[.slice A n C, .slice Ar nr Cr] w fun e w' => ∃ A' C' k z out, e = .returned (.tuple #[.slice A' k C', .int .i64 z]) ∧ IsLay l room z out ∧ out.length = k ∧ Ob 47 w (.slice A' k C') out w'.heap.size w' := by
  have hl := h.len
  have hrl := hr.len
  have HM := Lib.hid h
  have HX := Lib.hid hr
  have HG := Lib.hid hG
  have HSZ := Lib.hid (size_any A n C l w hn h)
  clear h hr hG
  go_enter Tryd.func15, Tryd.ntmps15
  go_wp2_with (go_at_call 11; refine HSZ.out.mono ?_; rintro _ w1 ⟨⟨z, s, rfl, hmy, hzs⟩, hb⟩; refine Hid.out ?_)
  have HMY := Lib.hid hmy
  have HB1 := Lib.hid hb
  by_cases hz : z = 0
  · subst hz
    obtain rfl : s = (sizeM l : Int) := by
      rcases hzs with ⟨h, _⟩ | ⟨_, h⟩
      · exact absurd rfl h
      · exact h
    obtain ⟨hlen, hsm⟩ : l.length ≤ 65536 ∧ ∀ m ∈ l, smallM m := by
      rcases hmy with ⟨_, h⟩ | ⟨h, _⟩
      · cases h
      · exact h
    have hszb := size_bound hsm
    have hszb2 : sizeM l ≤ 4295496000 := by
      have := Nat.mul_le_mul_right 65544 hlen
      omega
    have HSL := Lib.hid (stream_len l)
    clear hmy hzs hb hsm hszb HSZ
    generalize hsz : sizeM l = sz at *
    have HSZE := Lib.hid hsz
    clear hsz
    refine go_on ?_
    by_cases hbig : 65536 < nr
    · have z1 : (65536 : Int) < (nr : Int) := by omega
      have HL := Lib.hid (show IsLay l room 3 [] from .inr ⟨HMY.out, .inl ⟨by omega, rfl, rfl⟩⟩)
      go_wp2
      go_ret2
      first | exact ⟨none, 0, 0, 3, [], rfl, HL.out, rfl, ob_nil HB1.out⟩ | exact ⟨none, 0, 0, 3, rfl, [], HL.out, rfl, ob_nil HB1.out⟩
    · have z1 : ¬ (65536 : Int) < (nr : Int) := by omega
      have hrb : room.length ≤ 65536 := by omega
      go_wp2
      go_loopw [8, 29] (fun v i wr => ∃ (k : Nat), v = .int .i64 (sumCap (room.take k) : Int) ∧ i = .int .i64 k ∧ k ≤ nr ∧ Below w1.heap.size w1 wr ∧ Hid (∀ x ∈ room.take k, wideP x)) (fun _ i _ => nr - (intOf i).toNat)
      case atStart => exact ⟨0, rfl, rfl, Nat.zero_le _, Below.refl _ _, Lib.hid (by simp)⟩
      case round =>
        obtain ⟨k, rfl, rfl, hk, hbe, HWD⟩ := hrel
        have HBE := Lib.hid hbe
        have HBW := Lib.hid (below_more HB1.out hbe)
        clear hbe
        by_cases hlt : k < nr
        · have hltz : (k : Int) < (nr : Int) := by omega
          obtain ⟨b, o, rfl, hb1, hb2, -⟩ := HX.out.at_ (by omega)
          obtain ⟨c0, c1⟩ := HX.out.get rfl (i := k) (by omega)
          have hbw : b < w.heap.size := Nat.lt_of_lt_of_le hb2 hhi
          rw [← HBW.out.cell (p := ⟨b, o + k * 2, none⟩) hbw] at c0
          rw [← HBW.out.cell (p := ⟨b, o + k * 2 + 1, none⟩) hbw] at c1
          have hx : room[k]? = some (room[k]'(by omega)) := List.getElem?_eq_getElem _
          generalize room[k]'_ = x at c0 c1 hx
          have HXK := Lib.hid hx
          have hsb := sumCap_bound (room := room.take k) HWD.out
          rw [List.length_take] at hsb
          have hsb2 : sumCap (room.take k) ≤ 274877906944 := by
            have : min k room.length ≤ 65536 := by omega
            have := Nat.mul_le_mul_right 4194304 this
            omega
          clear hsb hx
          have HBX := Lib.hid (Bx.new wr 49 #[.int .i64 x.1, .int .i64 x.2])
          have HBN := Lib.hid (below_new wr (.cells #[.int .i64 x.1, .int .i64 x.2] 49))
          by_cases hwx : wideP x
          · have HWX := Lib.hid hwx
            have HCP := Lib.hid (show sumCap (room.take (k + 1)) = sumCap (room.take k) + capN x from sumCap_snoc HXK.out)
            have hcp : ((capN x : Nat) : Int) = x.2 - 16 := by unfold wideP at hwx; unfold capN; omega
            unfold wideP at hwx
            have hcb : capN x ≤ 4194304 := by unfold capN; omega
            generalize capN x = cp at *
            generalize sumCap (room.take k) = tt at *
            have R1 := Lib.hid (show IntKind.i64.wrap (x.2 - 16) = (cp : Int) by rw [hcp]; exact IntWalk.i64_in _ (by omega))
            have R1' := Lib.hid (show wrap64 (x.2 - 16) = (cp : Int) by rw [hcp]; unfold wrap64; omega)
            have R2 := Lib.hid (show IntKind.i64.wrap ((tt : Int) + (cp : Int)) = (tt : Int) + (cp : Int) from IntWalk.i64_in _ (by omega))
            have R2' := Lib.hid (show wrap64 ((tt : Int) + (cp : Int)) = (tt : Int) + (cp : Int) by unfold wrap64; omega)
            have r1 := R1.out
            have r1' := R1'.out
            have r2 := R2.out
            have r2' := R2'.out
            clear hwx hcp
            go_wp2_with (go_at_call 27; refine (wide_any x _).mono ?_; rintro _ w5 ⟨he, hb5⟩; rw [decide_eq_true HWX.out] at he; subst he; have hbx := HBX.out.later hb5 HBX.out.lt; have HW5 := Lib.hid (below_more HBE.out (below_more HBN.out hb5)); have x1 := hbx.cell 1; clear hbx hb5)
            go_roundw
            case rel => exact ⟨k + 1, by rw [HCP.out]; go_num, by go_num, by omega, HW5.out, Lib.hid (by rw [take_snoc HXK.out]; exact all_snoc.mpr ⟨HWD.out, HWX.out⟩)⟩
            case measure => simp [intOf]; omega
          · have HWX := Lib.hid hwx
            have HL := Lib.hid (show IsLay l room 2 [] from .inr ⟨HMY.out, .inr ⟨hrb, .inl ⟨fun h => HWX.out (h.1 x (List.mem_of_getElem? HXK.out)), rfl, rfl⟩⟩⟩)
            clear hwx
            generalize sumCap (room.take k) = tt at *
            go_wp2_with (go_at_call 27; refine (wide_any x _).mono ?_; rintro _ w5 ⟨he, hb5⟩; rw [decide_eq_false HWX.out] at he; subst he; have HW5 := Lib.hid (below_more HBW.out (below_more HBN.out hb5)); clear hb5)
            go_ret2
            first | exact ⟨none, 0, 0, 2, [], rfl, HL.out, rfl, ob_nil HW5.out⟩ | exact ⟨none, 0, 0, 2, rfl, [], HL.out, rfl, ob_nil HW5.out⟩
        · obtain rfl : k = nr := by omega
          rw [List.take_of_length_le (show room.length ≤ k by omega)] at HWD ⊢
          have HMT := Lib.hid (meets_any Ar k Cr lo hi room wr (by omega) (HX.out.later HBW.out hhi) (Nat.le_trans hhi HBW.out.size))
          have hsb := sumCap_bound (room := room) HWD.out
          have hsb2 : sumCap room ≤ 274877906944 := by
            have := Nat.mul_le_mul_right 4194304 hrb
            omega
          clear hsb
          have HSC := Lib.hid (rfl : sumCap room = sumCap room)
          obtain ⟨tt, htt⟩ : ∃ tt, sumCap room = tt := ⟨_, rfl⟩
          rw [htt] at hsb2 ⊢
          have HTT := Lib.hid htt
          clear htt HSC
          go_wp2_with (go_at_call 28; refine HMT.out.mono ?_; rintro _ w5 ⟨rm, rfl, hrm, hb5⟩; refine Hid.out ?_)
          have HB5 := Lib.hid (below_more HBW.out hb5)
          have HRM := Lib.hid hrm.out
          clear hrm hb5 HMT
          refine go_on ?_
          rcases rm with _ | _
          · have HNM := Lib.hid (HRM.out.mp rfl)
            by_cases hfull : tt < sz
            · have z2 : (tt : Int) < (sz : Int) := by omega
              have HL := Lib.hid (show IsLay l room 7 [] from .inr ⟨HMY.out, .inr ⟨hrb, .inr ⟨⟨HWD.out, HNM.out⟩, .inl ⟨by rw [HTT.out, HSZE.out]; exact hfull, rfl, rfl⟩⟩⟩⟩)
              go_wp2
              go_ret2
              first | exact ⟨none, 0, 0, 7, [], rfl, HL.out, rfl, ob_nil HB5.out⟩ | exact ⟨none, 0, 0, 7, rfl, [], HL.out, rfl, ob_nil HB5.out⟩
            · have z2 : ¬ (tt : Int) < (sz : Int) := by omega
              have HST := Lib.hid (stream_any A n C l w5 ((HM.out.later HB5.out).up HB5.out.size) HMY.out)
              go_wp2_with (go_at_call 29; refine HST.out.mono ?_; rintro _ w6 ⟨V6, rfl, hrow6, hb6⟩; refine Hid.out ?_)
              obtain ⟨A6, c6, hV6, hc6, hby6⟩ := row_cap8 hrow6
              subst hV6
              have HB6 := Lib.hid (below_more HB5.out hb6)
              have hsl := HSL.out
              have HIS := Lib.hid (show IsLay l room 0 (layL (streamM l) room) from .inr ⟨HMY.out, .inr ⟨hrb, .inr ⟨⟨HWD.out, HNM.out⟩, .inr ⟨by rw [HTT.out, HSZE.out]; omega, rfl, rfl⟩⟩⟩⟩)
              have HROOM := Lib.hid (show (streamM l).length ≤ sumCap room by rw [hsl, HTT.out]; omega)
              have HLT := Lib.hid hby6.lt
              generalize streamM l = S at *
              have HBY0 := Lib.hid (show Byt w6 w6.heap.size A6 (restAt S room 0).length (restAt S room 0) ∧ (restAt S room 0).length ≤ c6 from by rw [restAt_zero]; exact ⟨hby6, hc6⟩)
              have e0 : (.slice A6 S.length c6 : Value) = .slice A6 (restAt S room 0).length c6 := by rw [restAt_zero]
              rw [e0]
              clear hrow6 hb6 hby6 hc6 HST e0 hsl
              refine go_on ?_
              go_wp2
              go_loopw [11, 12] (fun v r wr => ∃ (k : Nat) (Aq : Option Addr) (q cq : Nat), r = .slice Aq q cq ∧ k ≤ room.length ∧ lenV v = k ∧ Qst w6 S room k Aq q cq ∧ Ob 47 w6 v ((layL S room).take k) wr.heap.size wr) (fun v _ _ => room.length + 1 - lenV v)
              case atStart => exact ⟨0, A6, _, c6, rfl, Nat.zero_le _, rfl, ⟨rfl, HBY0.out.2, HBY0.out.1, by simp⟩, Ob.nil _ _⟩
              case round =>
                obtain ⟨j, Aq, q, cq, rfl, hj, hlv, hQ, how⟩ := hrel
                have HQ := Lib.hid hQ
                clear hQ
                obtain ⟨Ao, co, hV⟩ := how.form
                rw [HQ.out.tk] at hV
                subst hV
                have HOW := Lib.hid how
                clear how hlv
                by_cases hq0 : 0 < q
                · have hne : restAt S room j ≠ [] := by
                    intro e
                    have h1 := HQ.out.len
                    rw [e] at h1
                    simp at h1
                    omega
                  have hjr := lay_room HROOM.out hne
                  have hx : room[j]? = some room[j] := List.getElem?_eq_getElem hjr
                  have hgetl := layL_get room S j room[j] hx hne
                  have HBW6 := Lib.hid (below_more HB6.out HOW.out.be)
                  obtain ⟨b, o, rfl, hb1, hb2, -⟩ := HX.out.at_ (by omega)
                  have hbw : b < w.heap.size := Nat.lt_of_lt_of_le hb2 hhi
                  obtain ⟨c0, c1⟩ := HX.out.get rfl (i := j) hjr
                  rw [← HBW6.out.cell (p := ⟨b, o + j * 2, none⟩) hbw] at c0
                  rw [← HBW6.out.cell (p := ⟨b, o + j * 2 + 1, none⟩) hbw] at c1
                  have hwx := HWD.out room[j] (List.getElem_mem hjr)
                  generalize room[j] = x at c0 c1 hx hgetl hwx
                  have HXJ := Lib.hid hx
                  have HGL := Lib.hid hgetl
                  obtain ⟨x0, x1⟩ := x
                  have hcp : ((capN (x0, x1) : Nat) : Int) = x1 - 16 := by unfold wideP at hwx; unfold capN; simp only at *; omega
                  unfold wideP at hwx
                  simp only at c0 c1 hwx
                  obtain ⟨a, ha⟩ : ∃ a : Nat, (a : Int) = x0 := ⟨x0.toNat, by omega⟩
                  obtain ⟨sx, hsx⟩ : ∃ sx : Nat, (sx : Int) = x1 := ⟨x1.toNat, by omega⟩
                  subst ha hsx
                  obtain ⟨cp, hcpe⟩ : ∃ cp, capN ((a : Int), (sx : Int)) = cp := ⟨_, rfl⟩
                  rw [hcpe] at hcp
                  have HCP := Lib.hid hcpe
                  have hjz : (j : Int) < (k : Int) := by omega
                  have hqz : (0 : Int) < (q : Int) := by omega
                  have R1 := Lib.hid (show IntKind.i64.wrap ((sx : Int) - 16) = (cp : Int) by rw [hcp]; exact IntWalk.i64_in _ (by omega))
                  have R1' := Lib.hid (show wrap64 ((sx : Int) - 16) = (cp : Int) by rw [hcp]; unfold wrap64; omega)
                  have hcs : cp + 16 = sx := by omega
                  have HCS := Lib.hid hcs
                  have HWX := Lib.hid hwx
                  clear hcpe hne hx hgetl hcp hwx hcs
                  have r1 := R1.out
                  have r1' := R1'.out
                  have HTKL := Lib.hid (show ((layL S room).take (j + 1)).length = j + 1 by
                    have h1 := (List.getElem?_eq_some_iff.mp HGL.out).1
                    rw [List.length_take]; omega)
                  have HEX := Lib.hid (below_new wr (.cells #[.int .i64 a, .int .i64 sx] 49))
                  by_cases hle : q ≤ cp
                  · obtain ⟨bq, oq, rfl, -⟩ := HQ.out.byt.at_ hq0
                    have hlez : min (q : Int) (cp : Int) = (q : Int) := by omega
                    have hqc : (q : Int) ≤ (cq : Int) := by have := HQ.out.cap; omega
                    obtain ⟨AD, hAD⟩ : ∃ AD, (if cq = q then some (⟨bq, oq, none⟩ : Addr) else some ⟨bq, oq + q, none⟩) = AD := ⟨_, rfl⟩
                    have HBN2 := Lib.hid (below_more HEX.out (below_new _ (.cells #[.int .i64 0, .int .i64 0] 49)))
                    have HBXX := Lib.hid ((Bx.new wr 49 #[.int .i64 a, .int .i64 sx]).later (below_new _ (.cells #[.int .i64 0, .int .i64 0] 49)) (by simp))
                    have HBXN := Lib.hid (Bx.new2 wr (.cells #[.int .i64 a, .int .i64 sx] 49) 49 #[.int .i64 0, .int .i64 0])
                    have HPART := Lib.hid HQ.out.byt
                    have HNEWQ := Lib.hid (show Qst w6 S room (j + 1) AD 0 (cq - q) from (by
                      have e : restAt S room (j + 1) = [] := by
                        rw [restAt_succ HXJ.out, HCP.out]
                        apply List.eq_nil_of_length_eq_zero
                        rw [List.length_drop, HQ.out.len]; omega
                      refine ⟨by rw [e]; rfl, Nat.zero_le _, ?_, HTKL.out⟩
                      rw [e]
                      exact ⟨rfl, fun x h => absurd h (List.not_mem_nil), fun h => absurd h (Nat.lt_irrefl _)⟩))
                    go_upto_region 27 with fail
                    obtain ⟨W0, hW0⟩ : ∃ W0 : World, ((wr.alloc (.cells #[.int .i64 a, .int .i64 sx] 49)).alloc (.cells #[.int .i64 0, .int .i64 0] 49)) = W0 := ⟨_, rfl⟩
                    have HBW0 := Lib.hid (show Below wr.heap.size wr W0 by rw [← hW0]; exact HBN2.out)
                    have HX0 := Lib.hid (show Bx W0 wr.heap.size 49 #[.int .i64 a, .int .i64 sx] by rw [← hW0]; exact HBXX.out)
                    have HNX := Lib.hid (show Bx W0 (wr.heap.size + 1) 49 #[.int .i64 (0 : Nat), .int .i64 (0 : Nat)] by rw [← hW0]; exact HBXN.out)
                    rw [hW0]
                    have x0 : W0.cell? ⟨wr.heap.size, 0, none⟩ = some (.int .i64 a) := HX0.out.cell 0
                    have x1 : W0.cell? ⟨wr.heap.size, 1, none⟩ = some (.int .i64 sx) := HX0.out.cell 1
                    have n0 : W0.cell? ⟨wr.heap.size + 1, 0, none⟩ = some (.int .i64 (0 : Nat)) := HNX.out.cell 0
                    have n1 : W0.cell? ⟨wr.heap.size + 1, 1, none⟩ = some (.int .i64 (0 : Nat)) := HNX.out.cell 1
                    have HBD := Lib.hid (HOW.out.be.trans ((HBW0.out.drew).mono HOW.out.be.size))
                    have HBK := Lib.hid (show Calls Tryd.prog 30 #[.slice (some ⟨bq, oq, none⟩) q cq, .agg #[.int .i64 (0 : Nat), .int .i64 (0 : Nat)], .int .i64 sx] W0.drew fun e w' => ∃ V, e = .returned V ∧ RowB w' W0.drew.heap.size V (blockL (restAt S room j) (((0 : Nat) : Int), ((0 : Nat) : Int)) sx) ∧ Below W0.drew.heap.size W0.drew w' from
                      block_any (some ⟨bq, oq, none⟩) q cq (0 : Nat) (0 : Nat) sx (restAt S room j) W0.drew (by first | omega | (have := HWY.out; omega)) (by first | omega | (have := HWY.out; omega)) (by have := HCS.out; omega) (by have := HWX.out; omega) ((HPART.out.later HBD.out).up HBD.out.size) (HG.out.later (HB6.out.trans (HBD.out.mono HB6.out.size)) (Nat.le_refl _)))
                    have HBLEN := Lib.hid (show (blockL (restAt S room j) (((0 : Nat) : Int), ((0 : Nat) : Int)) sx).length = sx from block_len (by rw [HPART.out.len]; have := HCS.out; omega))
                    have HTKN := Lib.hid (show (layL S room).take (j + 1) = (layL S room).take j ++ [((a : Int), blockL (restAt S room j) (((0 : Nat) : Int), ((0 : Nat) : Int)) sx)] by
                      have h1 := HGL.out
                      rw [HCP.out, Int.toNat_natCast] at h1
                      rw [take_snoc h1]
                      have e1 : (restAt S room j).take cp = restAt S room j := List.take_of_length_le (by rw [HQ.out.len]; exact hle)
                      rw [e1, if_pos (by rw [HQ.out.len]; exact hle)]; rfl)
                    have HJL := Lib.hid HQ.out.tk
                    have HRS := Lib.hid (show restAt S room (j + 1) = (restAt S room j).drop cp by rw [restAt_succ HXJ.out, HCP.out])
                    generalize blockL (restAt S room j) (((0 : Nat) : Int), ((0 : Nat) : Int)) sx = bl at *
                    have HQM := Lib.hid (show sx ≤ 140737488355328 by have := HWX.out; omega)
                    have HJ32 := Lib.hid (show (((layL S room).take j).length + 1) * 32 ≤ 140737488355328 by rw [HJL.out]; omega)
                    clear hW0 c0 c1
                    go_region_law (first
                      | (have hgate := HBK.out; clear hgate; go_simp; go_at_call 30; refine HBK.out.mono ?_; rintro _ w7 ⟨V7, rfl, hrow7, hb7⟩; have hb7 : Below W0.heap.size W0 w7 := below_then (Below.refl _ W0).drew (Nat.le_refl _) hb7; obtain ⟨g7, c7, hV7, hg7, hg7b⟩ := hrow7.own.form (by rw [HBLEN.out]; have := HCS.out; omega); rw [HBLEN.out] at hV7; subst hV7; have x0 := (hb7.cell (p := ⟨wr.heap.size, 0, none⟩) HX0.out.lt).trans x0; have HR7 := Lib.hid (show RowB w7 w6.heap.size (.slice (some ⟨g7, 0, none⟩) sx c7) bl from hrow7.up (Nat.le_trans HOW.out.be.size HBW0.out.size)); have HC7 := Lib.hid (by rcases hrow7.own.2 with ⟨hv, _⟩ | ⟨g8, cap8, cur8, hv, _, _, hc8, _⟩; (cases hv); (injection hv with e1 e2 e3; rw [HBLEN.out] at hc8; rw [← e3] at hc8; exact hc8) : sx ≤ c7); have HO7 := Lib.hid ((HOW.out.below HBW0.out).below hb7); have HG7 := Lib.hid (show wr.heap.size ≤ g7 from Nat.le_trans HBW0.out.size hg7); have HOE := Lib.hid (HO7.out.below (below_new w7 (.cells #[.int .i64 a, .slice (some ⟨g7, 0, none⟩) sx c7] 47))); have HRE := Lib.hid (HR7.out.below (below_new w7 (.cells #[.int .i64 a, .slice (some ⟨g7, 0, none⟩) sx c7] 47))); have HNE7 := Lib.hid (show (Value.slice Ao j co).ownBlock ≠ some g7 from fun e2 => by obtain ⟨vs, gs, hown, _⟩ := HOW.out.ex; exact Nat.lt_irrefl _ (Nat.lt_of_lt_of_le (hown.lt _ e2).2 HG7.out)); clear hrow7 hb7 HBK)
                      | (have hgate := HOE.out; clear hgate; refine step_pushB Tryd.underlying35 block_info (by rfl) (.tmp 79) (.tmp 88) (by rfl) w6 _ ((layL S room).take j) ((a : Int), bl) g7 sx c7 w7.heap.size wr.heap.size (by simp [Act.eval, Act.put]) (by simp [Act.eval, Act.put]) HOE.out HBLEN.out (Bx.new w7 _ _) HC7.out HQM.out HRE.out HG7.out HNE7.out HJ32.out ?_; intro V8 w8 how8; rw [← HTKN.out] at how8; obtain ⟨A8, c8, hV8⟩ := how8.form; rw [HTKL.out] at hV8; subst hV8; have HO8 := Lib.hid how8; clear how8))
                    all_goals
                      clear x0 x1 n0 n1
                      go_wp2
                      go_roundw
                      (case rel => first | exact ⟨j + 1, AD, 0, cq - q, rfl, hjr, rfl, HNEWQ.out, HO8.out⟩ | exact ⟨j + 1, AD, 0, cq - q, ⟨rfl, rfl, rfl⟩, by omega, rfl, HNEWQ.out, HO8.out⟩)
                      (case measure => simp [lenV]; omega)
                  · obtain ⟨bq, oq, rfl, -⟩ := HQ.out.byt.at_ hq0
                    obtain ⟨q2, hq2⟩ : ∃ q2, q - cp = q2 := ⟨_, rfl⟩
                    have hq2p : 0 < q2 := by omega
                    have hlen2 : (restAt S room (j + 1)).length = q2 := by rw [restAt_succ HXJ.out, HCP.out, List.length_drop, HQ.out.len, hq2]
                    have hjr2 := lay_room HROOM.out (k := j + 1) (by intro e; rw [e] at hlen2; simp at hlen2; omega)
                    obtain ⟨d0, d1⟩ := HX.out.get rfl (i := j + 1) hjr2
                    rw [← HBW6.out.cell (p := ⟨b, o + (j + 1) * 2, none⟩) hbw] at d0
                    rw [← HBW6.out.cell (p := ⟨b, o + (j + 1) * 2 + 1, none⟩) hbw] at d1
                    have hy : room[j + 1]? = some room[j + 1] := List.getElem?_eq_getElem hjr2
                    have hwy := HWD.out room[j + 1] (List.getElem_mem hjr2)
                    generalize room[j + 1] = y at d0 d1 hy hwy
                    obtain ⟨y0, y1⟩ := y
                    unfold wideP at hwy
                    simp only at d0 d1 hwy
                    obtain ⟨na, hna⟩ : ∃ na : Nat, (na : Int) = y0 := ⟨y0.toNat, by omega⟩
                    obtain ⟨ns, hns⟩ : ∃ ns : Nat, (ns : Int) = y1 := ⟨y1.toNat, by omega⟩
                    subst hna hns
                    have HYJ := Lib.hid hy
                    have hbr : b < wr.heap.size := Nat.lt_of_lt_of_le hbw HBW6.out.size
                    have HBZ := Lib.hid (below_more HEX.out (below_new _ (.cells #[.int .i64 0, .int .i64 0] 49)))
                    have e0 := (HBZ.out.cell (p := ⟨b, o + (j + 1) * 2, none⟩) hbr).trans d0
                    have e1 := (HBZ.out.cell (p := ⟨b, o + (j + 1) * 2 + 1, none⟩) hbr).trans d1
                    have hlez : min (q : Int) (cp : Int) = (cp : Int) := by omega
                    have hqc : (cp : Int) ≤ (cq : Int) := by have := HQ.out.cap; omega
                    have hqc2 : (cp : Int) ≤ (q : Int) := by omega
                    have hq2z : (0 : Int) < (q2 : Int) := by omega
                    have hj2 : (j : Int) + 1 < (k : Int) := by omega
                    have hj3 : (0 : Int) ≤ (j : Int) + 1 := by omega
                    obtain ⟨AD, hAD⟩ : ∃ AD, (if cq = cp then some (⟨bq, oq, none⟩ : Addr) else some ⟨bq, oq + cp, none⟩) = AD := ⟨_, rfl⟩
                    have HBN2 := Lib.hid (below_more HEX.out (below_new _ (.cells #[.int .i64 na, .int .i64 ns] 49)))
                    have HBXX := Lib.hid ((Bx.new wr 49 #[.int .i64 a, .int .i64 sx]).later (below_new _ (.cells #[.int .i64 na, .int .i64 ns] 49)) (by simp))
                    have HBXN := Lib.hid (Bx.new2 wr (.cells #[.int .i64 a, .int .i64 sx] 49) 49 #[.int .i64 na, .int .i64 ns])
                    have HPART := Lib.hid (byt_pre8 HQ.out.byt (k := cp) (by omega))
                    have HNEWQ := Lib.hid (show Qst w6 S room (j + 1) AD q2 (cq - cp) from (by
                      have e : restAt S room (j + 1) = (restAt S room j).drop cp := by rw [restAt_succ HXJ.out, HCP.out]
                      have h1 := byt_suf HQ.out.byt (k := cp) (c := cq) (by omega) HQ.out.cap
                      rw [hAD, hq2] at h1
                      refine ⟨hlen2, by have := HQ.out.cap; omega, ?_, HTKL.out⟩
                      rw [e]
                      exact h1))
                    have HWY := Lib.hid hwy
                    have R3 := Lib.hid (show IntKind.i64.wrap ((j : Int) + 1) = (j : Int) + 1 from IntWalk.i64_in _ (by omega))
                    have R3' := Lib.hid (show wrap64 ((j : Int) + 1) = (j : Int) + 1 by unfold wrap64; omega)
                    have r3 := R3.out
                    have r3' := R3'.out
                    clear hwy hy hlen2
                    go_upto_region 27 with fail
                    clear r3 r3'
                    obtain ⟨W0, hW0⟩ : ∃ W0 : World, ((wr.alloc (.cells #[.int .i64 a, .int .i64 sx] 49)).alloc (.cells #[.int .i64 na, .int .i64 ns] 49)) = W0 := ⟨_, rfl⟩
                    have HBW0 := Lib.hid (show Below wr.heap.size wr W0 by rw [← hW0]; exact HBN2.out)
                    have HX0 := Lib.hid (show Bx W0 wr.heap.size 49 #[.int .i64 a, .int .i64 sx] by rw [← hW0]; exact HBXX.out)
                    have HNX := Lib.hid (show Bx W0 (wr.heap.size + 1) 49 #[.int .i64 na, .int .i64 ns] by rw [← hW0]; exact HBXN.out)
                    rw [hW0]
                    have x0 : W0.cell? ⟨wr.heap.size, 0, none⟩ = some (.int .i64 a) := HX0.out.cell 0
                    have x1 : W0.cell? ⟨wr.heap.size, 1, none⟩ = some (.int .i64 sx) := HX0.out.cell 1
                    have n0 : W0.cell? ⟨wr.heap.size + 1, 0, none⟩ = some (.int .i64 na) := HNX.out.cell 0
                    have n1 : W0.cell? ⟨wr.heap.size + 1, 1, none⟩ = some (.int .i64 ns) := HNX.out.cell 1
                    have HBD := Lib.hid (HOW.out.be.trans ((HBW0.out.drew).mono HOW.out.be.size))
                    have HBK := Lib.hid (show Calls Tryd.prog 30 #[.slice (some ⟨bq, oq, none⟩) cp cq, .agg #[.int .i64 na, .int .i64 ns], .int .i64 sx] W0.drew fun e w' => ∃ V, e = .returned V ∧ RowB w' W0.drew.heap.size V (blockL ((restAt S room j).take cp) ((na : Int), (ns : Int)) sx) ∧ Below W0.drew.heap.size W0.drew w' from
                      block_any (some ⟨bq, oq, none⟩) cp cq na ns sx ((restAt S room j).take cp) W0.drew (by first | omega | (have := HWY.out; omega)) (by first | omega | (have := HWY.out; omega)) (by have := HCS.out; omega) (by have := HWX.out; omega) ((HPART.out.later HBD.out).up HBD.out.size) (HG.out.later (HB6.out.trans (HBD.out.mono HB6.out.size)) (Nat.le_refl _)))
                    have HBLEN := Lib.hid (show (blockL ((restAt S room j).take cp) ((na : Int), (ns : Int)) sx).length = sx from block_len (by rw [HPART.out.len]; have := HCS.out; omega))
                    have HTKN := Lib.hid (show (layL S room).take (j + 1) = (layL S room).take j ++ [((a : Int), blockL ((restAt S room j).take cp) ((na : Int), (ns : Int)) sx)] by
                      have h1 := HGL.out
                      rw [HCP.out, Int.toNat_natCast] at h1
                      rw [take_snoc h1]
                      have e1 : room.getD (j + 1) (0, 0) = ((na : Int), (ns : Int)) := by rw [List.getD_eq_getElem?_getD, HYJ.out]; rfl
                      rw [if_neg (by rw [HQ.out.len]; exact hle), e1])
                    have HJL := Lib.hid HQ.out.tk
                    have HRS := Lib.hid (show restAt S room (j + 1) = (restAt S room j).drop cp by rw [restAt_succ HXJ.out, HCP.out])
                    generalize blockL ((restAt S room j).take cp) ((na : Int), (ns : Int)) sx = bl at *
                    have HQM := Lib.hid (show sx ≤ 140737488355328 by have := HWX.out; omega)
                    have HJ32 := Lib.hid (show (((layL S room).take j).length + 1) * 32 ≤ 140737488355328 by rw [HJL.out]; omega)
                    clear hW0 c0 c1
                    go_region_law (first
                      | (have hgate := HBK.out; clear hgate; go_simp; go_at_call 30; refine HBK.out.mono ?_; rintro _ w7 ⟨V7, rfl, hrow7, hb7⟩; have hb7 : Below W0.heap.size W0 w7 := below_then (Below.refl _ W0).drew (Nat.le_refl _) hb7; obtain ⟨g7, c7, hV7, hg7, hg7b⟩ := hrow7.own.form (by rw [HBLEN.out]; have := HCS.out; omega); rw [HBLEN.out] at hV7; subst hV7; have x0 := (hb7.cell (p := ⟨wr.heap.size, 0, none⟩) HX0.out.lt).trans x0; have HR7 := Lib.hid (show RowB w7 w6.heap.size (.slice (some ⟨g7, 0, none⟩) sx c7) bl from hrow7.up (Nat.le_trans HOW.out.be.size HBW0.out.size)); have HC7 := Lib.hid (by rcases hrow7.own.2 with ⟨hv, _⟩ | ⟨g8, cap8, cur8, hv, _, _, hc8, _⟩; (cases hv); (injection hv with e1 e2 e3; rw [HBLEN.out] at hc8; rw [← e3] at hc8; exact hc8) : sx ≤ c7); have HO7 := Lib.hid ((HOW.out.below HBW0.out).below hb7); have HG7 := Lib.hid (show wr.heap.size ≤ g7 from Nat.le_trans HBW0.out.size hg7); have HOE := Lib.hid (HO7.out.below (below_new w7 (.cells #[.int .i64 a, .slice (some ⟨g7, 0, none⟩) sx c7] 47))); have HRE := Lib.hid (HR7.out.below (below_new w7 (.cells #[.int .i64 a, .slice (some ⟨g7, 0, none⟩) sx c7] 47))); have HNE7 := Lib.hid (show (Value.slice Ao j co).ownBlock ≠ some g7 from fun e2 => by obtain ⟨vs, gs, hown, _⟩ := HOW.out.ex; exact Nat.lt_irrefl _ (Nat.lt_of_lt_of_le (hown.lt _ e2).2 HG7.out)); clear hrow7 hb7 HBK)
                      | (have hgate := HOE.out; clear hgate; refine step_pushB Tryd.underlying35 block_info (by rfl) (.tmp 79) (.tmp 88) (by rfl) w6 _ ((layL S room).take j) ((a : Int), bl) g7 sx c7 w7.heap.size wr.heap.size (by simp [Act.eval, Act.put]) (by simp [Act.eval, Act.put]) HOE.out HBLEN.out (Bx.new w7 _ _) HC7.out HQM.out HRE.out HG7.out HNE7.out HJ32.out ?_; intro V8 w8 how8; rw [← HTKN.out] at how8; obtain ⟨A8, c8, hV8⟩ := how8.form; rw [HTKL.out] at hV8; subst hV8; have HO8 := Lib.hid how8; clear how8))
                    all_goals
                      clear x0 x1 n0 n1
                      go_wp2
                      go_roundw
                      (case rel => first | exact ⟨j + 1, AD, q2, cq - cp, rfl, hjr, rfl, HNEWQ.out, HO8.out⟩ | exact ⟨j + 1, AD, q2, cq - cp, ⟨rfl, rfl, rfl⟩, by omega, rfl, HNEWQ.out, HO8.out⟩)
                      (case measure => simp [lenV]; omega)
                · obtain rfl : q = 0 := by omega
                  have HEND := Lib.hid (show (layL S room).take j = layL S room from List.take_of_length_le (layL_end room S j (List.eq_nil_of_length_eq_zero HQ.out.len)))
                  have HJL := Lib.hid HQ.out.tk
                  have HOF := Lib.hid (show Ob 47 w (.slice Ao j co) (layL S room) wr.heap.size wr by rw [← HEND.out]; exact HOW.out.base HB6.out)
                  go_wp2
                  go_ret2
                  first | exact ⟨Ao, co, j, 0, layL S room, rfl, HIS.out, by rw [← HEND.out]; exact HJL.out, HOF.out⟩ | exact ⟨Ao, co, j, 0, rfl, layL S room, HIS.out, by rw [← HEND.out]; exact HJL.out, HOF.out⟩
          · have HL := Lib.hid (show IsLay l room 2 [] from .inr ⟨HMY.out, .inr ⟨hrb, .inl ⟨fun h => absurd (HRM.out.mpr h.2) (by decide), rfl, rfl⟩⟩⟩)
            go_wp2
            go_ret2
            first | exact ⟨none, 0, 0, 2, [], rfl, HL.out, rfl, ob_nil HB5.out⟩ | exact ⟨none, 0, 0, 2, rfl, [], HL.out, rfl, ob_nil HB5.out⟩
  · have z1 : (z != 0) = true := by simp [bne]; exact hz
    have z2 : (z == 0) = false := beq_eq_false_iff_ne.2 hz
    have HZ := Lib.hid hz
    have HL := Lib.hid (show IsLay l room z [] from .inl ⟨z, HMY.out, hz, rfl, rfl⟩)
    clear hz hmy hzs hb
    refine go_on ?_
    go_wp2
    go_ret2
    first | exact ⟨none, 0, 0, z, [], rfl, HL.out, rfl, ob_nil HB1.out⟩ | exact ⟨none, 0, 0, z, rfl, [], HL.out, rfl, ob_nil HB1.out⟩
theorem lay_any (A : Option Addr) (n C : Nat) (l : List Mg) (Ar : Option Addr) (nr Cr lo hi : Nat) (room : List Xt) (w : World) (hn : n ≤ 140737488355328) (hnr : nr ≤ 140737488355328) (h : Ms w w.heap.size A n l) (hr : Ex w lo hi Ar nr room) (hhi : hi ≤ w.heap.size) (hG : Gs w) :
    Calls Tryd.prog 15 #[.slice A n C, .slice Ar nr Cr] w fun e w' => ∃ A' C' k z out, e = .returned (.tuple #[.slice A' k C', .int .i64 z]) ∧ IsLay l room z out ∧ out.length = k ∧ Ms w' w'.heap.size A' k out ∧ Below w.heap.size w w' :=
  (lay_own A n C l Ar nr Cr lo hi room w hn hnr h hr hhi hG).mono fun e w' ⟨A', C', k, z, out, h1, h2, h3, h4⟩ => ⟨A', C', k, z, out, h1, h2, h3, h4.om.ms h3, h4.be⟩
end Go.Proofs.YtcgapkepbnbabaaDoor.X5
