/- A heap's Add. -/
import Derived.Test.YtpajimkebnfneaaDoorNb
import Derived.Deep.LoopGhost
namespace Go.Proofs.YtpajimkebnfneaaDoor.X5
set_option linter.unusedVariables false
set_option linter.unusedSimpArgs false
open Go.RowKit Go.Maps Wd Ty9

section
variable {w : World} {S : Nat → Prop} {hb mb : Nat} {D : DataW Value} {Lv : List (Option Value)} {L : List (Option (List Nat))}
/-- A thing was put at the least free number. -/
theorem HpR.added {w' w2 : World} {n' : Nat} {V : Value} {xs : List Nat} (h : HpR w S hb mb D Lv L) (hrow : RowB w2 w.heap.size V xs) (hb2 : Below w.heap.size w w2) (hk : xs.length ≤ 65536) (hg : w2.grownBy w' (some mb)) (ho : w'.ownsMap Tryd.prog 3 Rv mb n' (D.put (.int .i64 (hole L : Int)) (.held V))) :
    ∃ S' D' Lv', HpR w' S' hb mb D' Lv' (putL L (hole L) (some xs)) ∧ (∀ j, S' j → S j ∨ w.heap.size ≤ j) := by
  have h2 := h.later hb2
  have hh := h.same.2.1
  have hvn := hole_at Lv
  rw [hh] at hvn
  have hle : hole L ≤ Lv.length := by rw [h.len]; exact hole_le L
  obtain ⟨A, c, rfl, hby⟩ := hrow.byt
  have hcap : xs.length ≤ c := by
    rcases hrow.own.2 with ⟨hv, h1⟩ | ⟨g, cap, cur, hv, _, _, hc, _⟩
    · injection hv with e1 e2 e3; omega
    · injection hv with e1 e2 e3; omega
  have hgs := hg.size
  have hmb := h.sb mb h.sm
  refine ⟨fun j => S j ∨ (Value.slice A xs.length c).ownBlock = some j, _, putL Lv (hole L) (some (.slice A xs.length c)), h2.turned hg ho (h.is_.put hle hvn _) ?_ (fun _ h => .inl h) ?_ ?_ ?_, ?_⟩
  · rw [putL_len, putL_len, h.len]
  · rintro k (hk2 | hk2)
    · exact Nat.lt_of_lt_of_le (h2.sb k hk2) hgs
    · exact Nat.lt_of_lt_of_le (hrow.own.lt k hk2).2 hgs
  · intro i x hx
    rw [putL_get (hole_le L)] at hx
    by_cases e : i = hole L
    · subst e
      rw [if_pos rfl] at hx
      simp at hx
      subst hx
      right
      refine ⟨A, xs.length, c, by rw [putL_get hle, if_pos rfl], hcap, hk, ⟨hby.len, hby.lt, fun hm => ?_⟩, fun b o hm e => ?_⟩
      · obtain ⟨b, o, e, hlt, hc⟩ := hby.at_ hm
        have hbn : b ≠ mb := by
          obtain ⟨g, cap, e2, h5, h6⟩ := hrow.own.form hm
          injection e2 with e3 _ _
          rw [e3] at e
          have e4 : g = b := by injection Option.some.inj e
          omega
        exact ⟨b, o, e, Nat.lt_of_lt_of_le hlt hgs, fun j hj => (World.cell?_of_block (w := w2) (a := ⟨b, o + j, none⟩) (grown_keep hg hlt hbn)).trans (hc j hj)⟩
      · obtain ⟨g, cap, e2, h5, h6⟩ := hrow.own.form hm
        injection e2 with e3 _ _
        subst e3
        have e4 : g = b := by injection Option.some.inj e
        subst e4
        exact ⟨.inr rfl, by omega⟩
    · rw [if_neg e] at hx
      exact .inl ⟨hx, by rw [putL_get hle, if_neg e]⟩
  · intro i hi
    rw [putL_get (hole_le L)] at hi
    rw [putL_get hle]
    by_cases e : i = hole L
    · subst e; rw [if_pos rfl] at hi; simp at hi
    · rw [if_neg e] at hi ⊢
      exact h.no i hi
  · rintro j (hj | hj)
    · exact .inl hj
    · exact .inr (hrow.own.lt j hj).1
theorem has_at (h : HpR w S hb mb D Lv L) (k : Nat) (hk : k ≤ hole L) : Maps.has D (.int .i64 (k : Int)) = decide (k < hole L) := by
  by_cases hlt : k < hole L
  · obtain ⟨v, hv⟩ := hole_lt L k hlt
    rw [decide_eq_true hlt]
    obtain ⟨A, m, c, e, _⟩ := look_yes h hv
    exact e
  · obtain rfl : k = hole L := by omega
    rw [decide_eq_false hlt]
    refine look_no h fun hz => ?_
    obtain ⟨_, v, hv⟩ := (idsL_mem _ _).mp hz
    exact hole_at L v (by simpa using hv)

set_option maxHeartbeats 2000000 in
set_option maxRecDepth 100000 in
theorem add_any (h : HpR w S hb mb D Lv L) (hl : L.length ≤ 60000) {X : Option Addr} {k d : Nat} {xs : List Nat} (hx : Byt w w.heap.size X k xs) (hk : k ≤ 65536) :
    Calls Tryd.prog 8 #[.pointer (some ⟨hb, 0, none⟩), .slice X k d] w fun e w' => e = .returned (.tuple #[.int .i64 (hole L), .int .i64 0]) ∧
      (∃ S' D' Lv', HpR w' S' hb mb D' Lv' (putL L (hole L) (some xs)) ∧ (∀ j, S' j → S j ∨ w.heap.size ≤ j)) ∧ w.grownBy w' (some mb) := by
  have HH := Lib.hid h
  have HO := Lib.hid h.own
  have HG := Lib.hid (good_yes hb mb w h.box)
  have HC := Lib.hid (cloneb_any X k d xs w.drew (by omega) hx.drew)
  have HXL := Lib.hid hx.len
  have hcnt : Maps.size D = cntL L := h.is_.size.trans h.same.1
  have hcl := cntL_le L
  have hol := hole_le L
  have c0 : w.cell? ⟨hb, 0, none⟩ = some (.map (some mb)) := h.box.cell 0
  have c0d : w.drew.cell? ⟨hb, 0, none⟩ = some (.map (some mb)) := h.box.cell 0
  have hbl := h.box.lt
  have hml := h.sb mb h.sm
  have hcv : cntL Lv ≤ 60000 := by rw [h.same.1]; omega
  have hne : ((cntL L : Int) == 65536) = false := beq_eq_false_iff_ne.mpr (by omega)
  have hk2 : ¬ (65536 : Int) < (k : Int) := by omega
  have HAS := Lib.hid (has_at h)
  obtain ⟨cn, hcn⟩ : ∃ cn : Nat, cntL L = cn := ⟨_, rfl⟩
  obtain ⟨ho, hho⟩ : ∃ ho : Nat, hole L = ho := ⟨_, rfl⟩
  have HHO := Lib.hid hho
  rw [hho] at hol HAS ⊢
  rw [hcn] at hcnt hne
  clear h hcn hho hcl hx
  go_enter Tryd.func8, Tryd.ntmps8
  go_wp2_with (first
    | (go_at_call 22; refine HG.out.mono ?_; rintro _ w2 ⟨rfl, rfl⟩)
    | (at_len; refine wpList_len_own _ rfl _ 24 rfl 3 22 Tryd.underlying24 _ mb _ D rfl HO.out ?_))
  go_loopw [6] (fun i wr => wr = w2 ∧ ∃ kk : Nat, i = .int .i64 kk ∧ kk ≤ ho) (fun i _ => ho - (RowKit.intOf i).toNat)
  case atStart => exact ⟨rfl, 0, rfl, Nat.zero_le _⟩
  case round =>
    obtain ⟨rfl, kk, rfl, hkk⟩ := hrel
    have hkey := keyI (z := (kk : Int)) (by omega) (by omega)
    have hh := HAS.out kk hkk
    by_cases hlt : kk < ho
    · rw [decide_eq_true hlt] at hh
      have hw : IntKind.i64.wrap ((kk : Int) + 1) = ((kk + 1 : Nat) : Int) := by rw [IntKind.wrap_i64]; omega
      have HW := Lib.hid hw
      clear hw
      go_wp2_with (at_lookup; refine wpList_lookup_own_ok _ rfl _ _ 24 rfl 3 22 lawI Tryd.underlying24 Rv (zeroB _) (.held (.slice none 0 0)) [] rfl mb _ D rfl HO.out _ _ rfl hkey ?_; intro v ps hv; clear hv)
      go_roundw
      case rel => exact ⟨(by trivial), kk + 1, by go_num, by omega⟩
      case measure => simp [RowKit.intOf]; omega
    · rw [decide_eq_false hlt] at hh
      obtain rfl : kk = ho := by omega
      have HK := Lib.hid hkey
      clear hlt hkk
      go_wp2_with (at_lookup; refine wpList_lookup_own_ok _ rfl _ _ 24 rfl 3 22 lawI Tryd.underlying24 Rv (zeroB _) (.held (.slice none 0 0)) [] rfl mb _ D rfl HO.out _ _ rfl hkey ?_; intro v ps hv; clear hv)
      go_region_law
        (first
          | (go_simp; go_at_call 23; refine HC.out.mono ?_; rintro _ w5 ⟨V, rfl, hrow, hb5⟩; have HROW := Lib.hid hrow; have HB5 := Lib.hid (below_more ((Below.refl _ wr).drew) hb5); have HO5 := Lib.hid (own_keep HO.out (HB5.out.block mb hml)); have c0n : w5.cell? ⟨hb, 0, none⟩ = some (.map (some mb)) := (HB5.out.cell (p := ⟨hb, 0, none⟩) hbl).trans c0; obtain ⟨w6, hrun6, hown6, hgr6⟩ := HO5.out.update lawI Tryd.underlying24 (show cntL Lv < maxLen by unfold maxLen; omega) HK.out (show Rv V = some (.held V, []) from rfl); have HO6 := Lib.hid hown6; have HG6 := Lib.hid hgr6; clear hown6 hgr6 hrow hb5))
      all_goals
        go_wp2
        go_ret2
        refine ⟨rfl, (by have h1 := HH.out.added HROW.out HB5.out (by rw [HXL.out]; exact hk) HG6.out (by rw [HHO.out]; exact HO6.out); rw [HHO.out] at h1; exact h1), ?_⟩
        exact ⟨HG6.out.os.trans HB5.out.os, HG6.out.tape.trans HB5.out.tape, HG6.out.output.trans HB5.out.output, Nat.le_trans HB5.out.size HG6.out.size, fun j hj hn => (HG6.out.block j (Nat.lt_of_lt_of_le hj HB5.out.size) hn).trans (HB5.out.block j hj)⟩
end
end Go.Proofs.YtpajimkebnfneaaDoor.X5
