/- The law ExtentGives. -/
import Derived.Test.YtkdfafaiabidgaaKwq
import Derived.Test.YtkdfafaiabidgaaKwr
namespace Go.Proofs.Ytkdfafaiabidgaa.X5
set_option linter.unusedVariables false
set_option linter.unusedSimpArgs false
open Go.RowKit Wd Ty9

theorem own_cap {w : World} {base n C : Nat} {e : TypeId} {A : Option Addr} {xs : List Value} (h : w.ownsRow base e 2 (.slice A n C) n xs) : A = none → C = 0 := by
  rcases h.2 with ⟨hv, _⟩ | ⟨g, cap, cur, hv, _⟩
  · cases hv; exact fun _ => rfl
  · cases hv; exact fun h => nomatch h

set_option maxHeartbeats 4000000 in
set_option maxRecDepth 100000 in
theorem gives_walk (w : World) (A : Option Addr) (n C : Nat) (xs : List Xt) (hn : (n + 1) * 16 ≤ 140737488355328) (hA : A = none → C = 0) (h : Ex w 0 w.heap.size A n xs) (x : Xt) :
    Calls Try.prog 7 #[.slice A n C, .agg #[.int .i64 x.1, .int .i64 x.2]] w fun e w' => e = .returned (.bool true) ∧ Below w.heap.size w w' := by
  have hl := h.len
  have HX := Lib.hid h
  have HB0 := Lib.hid (below_new w (.cells #[.int .i64 x.1, .int .i64 x.2] 48))
  have HBX0 := Lib.hid (Bx.new w 48 #[.int .i64 x.1, .int .i64 x.2])
  have HF := Lib.hid (few_any A n C (w.alloc (.cells #[.int .i64 x.1, .int .i64 x.2] 48)) (by omega))
  by_cases hf : n ≤ 300 ∨ 65536 < n
  · have HFD := Lib.hid (decide_eq_true hf)
    clear h hf
    go_enter Try.func7, Try.ntmps7
    go_wp2_with (go_at_call 10; refine HF.out.mono ?_; rintro _ w1 ⟨he, hb⟩; rw [HFD.out] at he; subst he; refine Hid.out ?_)
    have HB1 := Lib.hid (below_more HB0.out hb)
    have HBX1 := Lib.hid (HBX0.out.later hb HBX0.out.lt)
    have HX1 := Lib.hid (HX.out.later HB1.out (Nat.le_refl _))
    have HLE := Lib.hid (lent_any A n C 0 w.heap.size xs w1 hn hA HX1.out HB1.out.size)
    clear hb
    refine go_on ?_
    go_wp2_with (go_at_call 12; refine HLE.out.mono ?_; rintro _ w2 ⟨g, C2, rfl, hL, hb⟩; refine Hid.out ?_)
    have HL := Lib.hid hL
    have HB2 := Lib.hid (below_more HB1.out hb)
    have HBX2 := Lib.hid (HBX1.out.later hb HBX1.out.lt)
    have HN := Lib.hid (give_any (some ⟨g, 0, none⟩) n C2 w1.heap.size w2.heap.size xs x w2 (by omega) hL.ex (Nat.le_refl _))
    have x0 : w2.cell? ⟨w.heap.size, 0, none⟩ = some (.int .i64 x.1) := HBX2.out.cell 0
    have x1 : w2.cell? ⟨w.heap.size, 1, none⟩ = some (.int .i64 x.2) := HBX2.out.cell 1
    clear hL hb
    refine go_on ?_
    go_wp2_with (go_at_call 29; refine HN.out.mono ?_; rintro _ w3 ⟨A3, C3, m3, z3, o3, rfl, hn3, hl3, hown3, hb⟩; refine Hid.out ?_)
    obtain ⟨_, _, ev, -, hex3, hth3⟩ := own_ex hown3
    cases ev
    have HT3 := Lib.hid hth3
    have HN3 := Lib.hid hn3
    have HE3 := Lib.hid hex3
    have HL3 := Lib.hid (HL.out.later hb)
    have HB3 := Lib.hid (below_more HB2.out hb)
    have HBX3 := Lib.hid (HBX2.out.later hb HBX2.out.lt)
    have HP := Lib.hid (plain_any A n C 0 w.heap.size xs w3.drew (by omega) (HX.out.later HB3.out.drew (Nat.le_refl _)) HB3.out.drew.size)
    clear hn3 hth3 hex3 hb HN x0 x1 hown3 hl3
    refine go_on ?_
    have x0 : w3.cell? ⟨w.heap.size, 0, none⟩ = some (.int .i64 x.1) := HBX3.out.cell 0
    have x1 : w3.cell? ⟨w.heap.size, 1, none⟩ = some (.int .i64 x.2) := HBX3.out.cell 1
    have HLX := Lib.hid HBX3.out.lt
    go_upto_region 5 with fail
    go_region_law (first
      | (have hgate := HP.out; clear hgate; go_simp; go_at_call 15; refine HP.out.mono ?_; rintro _ w5 ⟨V5, rfl, how5⟩; have hown5 := how5.own; obtain ⟨A5, C5, hV, -, hex5, -⟩ := own_ex how5.own; rw [hl] at hV hex5 hown5; subst hV; have hbw := how5.be; have x0 := (hbw.cell (p := ⟨w.heap.size, 0, none⟩) HLX.out).trans x0; have x1 := (hbw.cell (p := ⟨w.heap.size, 1, none⟩) HLX.out).trans x1; have HR := Lib.hid (rgive_any A5 n C5 w3.heap.size w5.heap.size xs x w5 (by omega) (own_cap hown5) hex5 (Nat.le_refl _)); have HB35 := Lib.hid (show Below w3.heap.size w3 w5 from below_then (Below.refl _ w3).drew (Nat.le_refl _) hbw); clear how5 hown5 hex5 hbw HP)
      | (have hgate := HR.out; clear hgate; go_simp; go_at_call 30; refine HR.out.mono ?_; rintro _ w6 ⟨A6, C6, m6, z6, o6, rfl, hn6, hl6, hown6, hb⟩; have HN6 := Lib.hid hn6; have HW6 := Lib.hid hown6; have HM6 := Lib.hid hl6; have HB56 := Lib.hid hb; clear hn6 hl6 hown6 hb HR))
    all_goals
      clear x0 x1
      obtain ⟨_, _, ev, -, hex6, -⟩ := own_ex HW6.out
      cases ev
      obtain ⟨hz, ho⟩ := HN6.out.uniq HN3.out
      subst hz ho
      have HB36 := Lib.hid (below_then HB35.out HB35.out.size HB56.out)
      have HS36 := Lib.hid HB36.out.size
      have HE6 := Lib.hid hex6
      have HE3d := Lib.hid (HE3.out.later HB36.out (Nat.le_refl _))
      have HT3d := Lib.hid (thaw_below HT3.out HB36.out (fun h0 b o e => by obtain ⟨b', o', e', _, h3, _⟩ := HE3.out.at_ h0; rw [e] at e'; cases e'; exact h3))
      have HL6 := Lib.hid (HL3.out.later HB36.out)
      have HB6 := Lib.hid (below_more HB3.out HB36.out)
      have hlen := HN6.out.len
      have HQ := Lib.hid (same_any A3 A6 m3 m6 C3 C6 _ _ _ _ o6 o6 w6 (by have h1 := HE3.out.len; omega) HE3d.out HS36.out HE6.out (Nat.le_refl _))
      have HM3 := Lib.hid (show m3 ≤ 140737488355328 by have h1 := HE3.out.len; omega)
      have HK := Lib.hid (fun (W : World) (hL : Lent w1 W g n C2 xs) (hb : Below w.heap.size w W) => kept_yes w1 g C2 A n C 0 w.heap.size xs W hn hL (HX.out.later hb (Nat.le_refl _)) hb.size)
      have zz : (z6 != z6) = false := by simp
      clear hex6 hlen
      go_wp2_with (go_at_call 16; refine HQ.out.mono ?_; rintro _ w7 ⟨he, hb⟩; rw [decide_eq_true rfl] at he; subst he; refine Hid.out ?_)
      have HL7 := Lib.hid (HL6.out.later hb)
      have HB7 := Lib.hid (below_more HB6.out hb)
      have HB67 := Lib.hid hb
      have HK7 := Lib.hid (HK.out w7 HL7.out HB7.out)
      clear hb HQ
      refine go_on ?_
      go_wp2_with (go_at_call 17; refine HK7.out.mono ?_; rintro _ w8 ⟨rfl, hb⟩; refine Hid.out ?_)
      have HB68 := Lib.hid (below_more HB67.out hb)
      have HL8 := Lib.hid (HL7.out.later hb)
      have HB8 := Lib.hid (below_more HB7.out hb)
      have HE3e := Lib.hid (HE3d.out.later HB68.out HS36.out)
      have HT3e := Lib.hid (thaw_below HT3d.out HB68.out (fun h0 b o e => by obtain ⟨b', o', e', _, h3, _⟩ := HE3.out.at_ h0; rw [e] at e'; cases e'; have := HS36.out; omega))
      have HSP := Lib.hid (spoil_any A3 m3 C3 w2.heap.size w3.heap.size o6 w8 HM3.out HE3e.out HT3e.out)
      clear hb HK7
      refine go_on ?_
      go_wp2_with (go_at_call 18; refine HSP.out.mono ?_; rintro _ w9 ⟨rfl, hch⟩; refine Hid.out ?_)
      have HB9 := Lib.hid (HB8.out.trans (hch.below HB8.out.size (fun j hj => by have h1 := hj.1; have h2 := HB2.out.size; omega)))
      have hg := HL.out.form.2.2.1
      have HL9 := Lib.hid (HL8.out.keep (hch.block g HL8.out.form.2.2.1 (fun hj => by have h1 := hj.1; omega)))
      have HK9 := Lib.hid (HK.out w9 HL9.out HB9.out)
      clear hch hg HSP
      refine go_on ?_
      go_wp2_with (go_at_call 17; refine HK9.out.mono ?_; rintro _ w11 ⟨rfl, hb⟩; refine Hid.out ?_)
      have HB11 := Lib.hid (below_more HB9.out hb)
      clear hb HK9
      refine go_on ?_
      go_wp2_with (go_at_call 11; refine (lives_any w11).mono ?_; rintro _ w12 ⟨rfl, hb⟩; refine Hid.out ?_)
      have HB12 := Lib.hid (below_more HB11.out hb)
      clear hb
      refine go_on ?_
      go_wp2
      go_ret
      exact ⟨rfl, HB12.out⟩
  · have HFD := Lib.hid (decide_eq_false hf)
    clear h hf
    go_enter Try.func7, Try.ntmps7
    go_wp2_with (go_at_call 10; refine HF.out.mono ?_; rintro _ w1 ⟨he, hb⟩; rw [HFD.out] at he; subst he; have HB1 := Lib.hid (below_more HB0.out hb); clear hb)
    go_wp2_with (go_at_call 11; refine (lives_any w1).mono ?_; rintro _ w2 ⟨rfl, hb⟩; have HB2 := Lib.hid (below_more HB1.out hb); clear hb)
    go_ret
    exact ⟨rfl, HB2.out⟩
end Go.Proofs.Ytkdfafaiabidgaa.X5
