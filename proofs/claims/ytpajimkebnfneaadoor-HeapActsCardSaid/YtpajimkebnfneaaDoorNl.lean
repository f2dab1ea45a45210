/- Load of a heap's own bytes, the walk. -/
import Derived.Test.YtpajimkebnfneaaDoorNk
namespace Go.Proofs.YtpajimkebnfneaaDoor.X5
set_option linter.unusedVariables false
set_option linter.unusedSimpArgs false
open Go.RowKit Go.Maps Wd Ty9

theorem lo4 (u : Nat) (h : u < 4294967296) : lval (lows true (digs 4 true u)) = u := by
  have e : lows true (digs 4 true u) = digs 4 false u := by unfold lows digs pos; rfl
  rw [e, lval_digs]
  exact Nat.mod_eq_of_lt (by simpa using h)
/-- Where number k's part begins. -/
def partP (Q : List (Option (List Nat))) (k : Nat) : Nat := 4 + ((Q.take k).flatMap slotB).length
theorem partP_succ {Q : List (Option (List Nat))} {k : Nat} {o : Option (List Nat)} (h : Q[k]? = some o) : partP Q (k + 1) = partP Q k + (slotB o).length := by
  unfold partP; rw [take_snoc h, List.length_append]; omega
theorem part_at {N : Nat} {Q : List (Option (List Nat))} {k : Nat} {o : Option (List Nat)} (h : Q[k]? = some o) : ∃ pre suf, digs 4 true N ++ Q.flatMap slotB = pre ++ (slotB o ++ suf) ∧ pre.length = partP Q k := by
  have hk := (List.getElem?_eq_some_iff.mp h).1
  refine ⟨digs 4 true N ++ (Q.take k).flatMap slotB, (Q.drop (k + 1)).flatMap slotB, ?_, by unfold partP; rw [List.length_append, digs_len]⟩
  have e : Q = Q.take k ++ (o :: Q.drop (k + 1)) := by
    have h1 := List.getElem_eq_iff (h := hk) |>.mpr h
    rw [← h1, ← List.drop_eq_getElem_cons hk, List.take_append_drop]
  conv => lhs; rw [e]
  rw [List.flatMap_append, List.flatMap_cons, List.append_assoc]
theorem part_none {N : Nat} {Q : List (Option (List Nat))} {k : Nat} (h : Q[k]? = some none) : (digs 4 true N ++ Q.flatMap slotB)[partP Q k]? = some 0 := by
  obtain ⟨pre, suf, e, hp⟩ := part_at (N := N) h
  rw [e, ← hp, List.getElem?_append_right (Nat.le_refl _), Nat.sub_self]
  rfl
theorem part_some {N : Nat} {Q : List (Option (List Nat))} {k : Nat} {x : List Nat} (h : Q[k]? = some (some x)) (hx : x.length ≤ 65536) :
    (digs 4 true N ++ Q.flatMap slotB)[partP Q k]? = some 1 ∧ lval (lows true (((digs 4 true N ++ Q.flatMap slotB).drop (partP Q k + 1)).take 4)) = x.length ∧ ((digs 4 true N ++ Q.flatMap slotB).drop (partP Q k + 1 + 4)).take x.length = x ∧ partP Q k + 1 + 4 + x.length ≤ (digs 4 true N ++ Q.flatMap slotB).length := by
  obtain ⟨pre, suf, e, hp⟩ := part_at (N := N) h
  have e2 : pre ++ (slotB (some x) ++ suf) = (pre ++ [1]) ++ (digs 4 true x.length ++ (x ++ suf)) := by simp [slotB]
  have e3 : pre ++ (slotB (some x) ++ suf) = (pre ++ [1] ++ digs 4 true x.length) ++ (x ++ suf) := by simp [slotB]
  rw [e, ← hp]
  refine ⟨by rw [List.getElem?_append_right (Nat.le_refl _), Nat.sub_self]; rfl, ?_, ?_, ?_⟩
  · rw [e2, List.drop_left' (by simp), List.take_left' (by rw [digs_len]), lo4 _ (by omega)]
  · rw [e3, List.drop_left' (by simp [digs_len]), List.take_left' rfl]
  · rw [e3]; simp [digs_len]; omega
theorem part_le {N : Nat} {Q : List (Option (List Nat))} {k : Nat} {o : Option (List Nat)} (h : Q[k]? = some o) : partP Q k + (slotB o).length ≤ (digs 4 true N ++ Q.flatMap slotB).length := by
  obtain ⟨pre, suf, e, hp⟩ := part_at (N := N) h
  rw [e, ← hp]; simp
theorem part_full {N : Nat} (Q : List (Option (List Nat))) : partP Q Q.length = (digs 4 true N ++ Q.flatMap slotB).length := by
  unfold partP; rw [List.take_length, List.length_append, digs_len]
/-- Was the last part that of a thing? -/
def lastB (Q : List (Option (List Nat))) : Nat → Bool
  | 0 => true
  | k + 1 => match Q[k]? with | some (some _) => true | _ => false
theorem lastB_full (L : List (Option (List Nat))) : lastB (L.take (lastN L)) (lastN L) = true := by
  cases h : lastN L with
  | zero => rfl
  | succ n =>
    unfold lastN at h
    split at h
    · rename_i z hz
      obtain ⟨h0, v, hv⟩ := (idsL_mem L z).mp (List.mem_of_getLast? hz)
      have e : z.toNat = n := by omega
      rw [lastB, List.getElem?_take, if_pos (by omega), ← e, hv]
    · omega
theorem idsA_snoc {α : Type} : ∀ (l : List (Option α)) (k : Nat), idsA k (l ++ [none]) = idsA k l
  | [], k => rfl
  | none :: l, k => idsA_snoc l (k + 1)
  | some _ :: l, k => by rw [List.cons_append, idsA, idsA, idsA_snoc l (k + 1)]
theorem cntL_none {α : Type} : ∀ (l : List (Option α)), cntL (l ++ [none]) = cntL l
  | [] => rfl
  | none :: l => cntL_none l
  | some _ :: l => by rw [List.cons_append, cntL, cntL, cntL_none l]
theorem MapIs.none_snoc {D : DataW Value} {l : List (Option Value)} (h : MapIs D l) : MapIs D (l ++ [none]) := by
  refine ⟨h.tidy, h.ints, fun z => by rw [h.has, idsL, idsL, idsA_snoc], fun i v hi d => ?_, by rw [cntL_none]; exact h.size⟩
  rcases Nat.lt_or_ge i l.length with hl | hl
  · rw [List.getElem?_append_left hl] at hi; exact h.at_ i v hi d
  · rw [List.getElem?_append_right hl] at hi
    rcases hj : i - l.length with _ | j
    · rw [hj] at hi; simp at hi
    · rw [hj] at hi; simp at hi

section
variable {w : World} {S : Nat → Prop} {hb mb : Nat} {D : DataW Value} {Lv : List (Option Value)} {L : List (Option (List Nat))}
theorem snoc_get {α : Type} (l : List α) (a : α) (i : Nat) : (l ++ [a])[i]? = if i = l.length then some a else l[i]? := by
  by_cases h : i = l.length
  · subst h; simp
  · rw [if_neg h]
    rcases Nat.lt_or_ge i l.length with h1 | h1
    · rw [List.getElem?_append_left h1]
    · rw [List.getElem?_eq_none (by simp; omega), List.getElem?_eq_none h1]
theorem HpR.none_snoc (h : HpR w S hb mb D Lv L) : HpR w S hb mb D (Lv ++ [none]) (L ++ [none]) := by
  refine ⟨h.box, by rw [cntL_none]; exact h.own, h.is_.none_snoc, by simp [h.len], h.sh, h.sm, h.ne, h.sb, fun i x hx => ?_, fun i hi => ?_⟩
  · rw [snoc_get] at hx
    by_cases e : i = L.length
    · rw [if_pos e] at hx; simp at hx
    · rw [if_neg e] at hx
      obtain ⟨A, m, c, e1, e2⟩ := h.row i x hx
      exact ⟨A, m, c, by rw [snoc_get, if_neg (by rw [h.len]; exact e)]; exact e1, e2⟩
  · rw [snoc_get] at hi ⊢
    by_cases e : i = L.length
    · rw [if_pos (by rw [h.len]; exact e)]
    · rw [if_neg e] at hi; rw [if_neg (by rw [h.len]; exact e)]; exact h.no i hi
/-- A thing is put behind the others. -/
theorem HpR.snoc {w' w2 : World} {n' : Nat} {V : Value} {xs : List Nat} (h : HpR w S hb mb D Lv L) (hrow : RowB w2 w.heap.size V xs) (hb2 : Below w.heap.size w w2) (hk : xs.length ≤ 65536) (hg : w2.grownBy w' (some mb)) (ho : w'.ownsMap Tryd.prog 3 Rv mb n' (D.put (.int .i64 (L.length : Int)) (.held V))) :
    ∃ S' D' Lv', HpR w' S' hb mb D' Lv' (L ++ [some xs]) ∧ (∀ j, S' j → S j ∨ w.heap.size ≤ j) := by
  have h2 := h.later hb2
  have hpl : ∀ {α : Type} (l : List (Option α)) (x : Option α), putL l l.length x = l ++ [x] := fun l x => by unfold putL; rw [if_neg (Nat.lt_irrefl _)]
  have hvn : ∀ v, Lv[L.length]? ≠ some (some v) := fun v e => by rw [List.getElem?_eq_none (by rw [h.len]; exact Nat.le_refl _)] at e; cases e
  obtain ⟨A, c, rfl, hby⟩ := hrow.byt
  have hcap : xs.length ≤ c := by
    rcases hrow.own.2 with ⟨hv, h1⟩ | ⟨g, cap, cur, hv, _, _, hc, _⟩
    · injection hv with e1 e2 e3; omega
    · injection hv with e1 e2 e3; omega
  have hgs := hg.size
  have hmb := h.sb mb h.sm
  have his := h.is_.put (i := L.length) (by rw [h.len]; exact Nat.le_refl _) hvn (.slice A xs.length c)
  rw [← h.len, hpl, h.len] at his
  refine ⟨fun j => S j ∨ (Value.slice A xs.length c).ownBlock = some j, _, Lv ++ [some (.slice A xs.length c)], h2.turned hg ho his ?_ (fun _ h => .inl h) ?_ ?_ ?_, ?_⟩
  · simp [h.len]
  · rintro k (hk2 | hk2)
    · exact Nat.lt_of_lt_of_le (h2.sb k hk2) hgs
    · exact Nat.lt_of_lt_of_le (hrow.own.lt k hk2).2 hgs
  · intro i x hx
    rw [snoc_get] at hx
    by_cases e : i = L.length
    · rw [if_pos e] at hx
      simp at hx
      subst hx
      right
      refine ⟨A, xs.length, c, by rw [snoc_get, if_pos (by rw [h.len]; exact e)], hcap, hk, ⟨hby.len, hby.lt, fun hm => ?_⟩, fun b o hm e => ?_⟩
      · obtain ⟨b, o, e, hlt, hc⟩ := hby.at_ hm
        have hbn : b ≠ mb := by
          obtain ⟨g, cap, e2, h5, h6⟩ := hrow.own.form hm
          injection e2 with e3 _ _
          rw [e3] at e
          have e4 : g = b := by injection Option.some.inj e
          omega
        exact ⟨b, o, e, Nat.lt_of_lt_of_le hlt hgs, fun j hj => (World.cell?_of_block (w := w2) (a := ⟨b, o + j, none⟩) (grown_keep hg hlt hbn)).trans (hc j hj)⟩
      · obtain ⟨g, cap, e2, h5, h6⟩ := hrow.own.form hm
        injection e2 with e3 _ _
        subst e3
        have e4 : g = b := by injection Option.some.inj e
        subst e4
        exact ⟨.inr rfl, by omega⟩
    · rw [if_neg e] at hx
      exact .inl ⟨hx, by rw [snoc_get, if_neg (by rw [h.len]; exact e)]⟩
  · intro i hi
    rw [snoc_get] at hi ⊢
    by_cases e : i = L.length
    · rw [if_pos e] at hi; simp at hi
    · rw [if_neg e] at hi; rw [if_neg (by rw [h.len]; exact e)]; exact h.no i hi
  · rintro j (hj | hj)
    · exact .inl hj
    · exact .inr (hrow.own.lt j hj).1
end

set_option maxHeartbeats 8000000 in
set_option maxRecDepth 100000 in
theorem load_good (L : List (Option (List Nat))) (hsm : smallL L) (hl : L.length ≤ 1000) (A : Option Addr) (m c : Nat) (w : World) (hc : m ≤ c) (hb : Byt w w.heap.size A m (sealL (heapB L))) (hG : Gs w) :
    Calls Tryd.prog 16 #[.slice A m c] w fun e w' => ∃ hb S, e = .returned (.tuple #[.pointer (some ⟨hb, 0, none⟩), .int .i64 0]) ∧ Hp w' S hb (L.take (lastN L)) ∧ (∀ k, S k → w.heap.size ≤ k) ∧ Below w.heap.size w w' := by
  have hNl := lastN_le L
  obtain ⟨N, hN⟩ : ∃ N, lastN L = N := ⟨_, rfl⟩
  obtain ⟨Q, hQ⟩ : ∃ Q, L.take N = Q := ⟨_, rfl⟩
  have hQl : Q.length = N := by rw [← hQ, List.length_take]; omega
  have hQs : ∀ x, some x ∈ Q → x.length ≤ 65536 := fun x hx => hsm x (List.mem_of_mem_take (by rw [hQ]; exact hx))
  have hX : heapB L = digs 4 true N ++ Q.flatMap slotB := by unfold heapB; rw [hN, hQ]
  have hlast : lastB Q N = true := by have := lastB_full L; rwa [hN, hQ] at this
  have hun := un_seal (heapB L)
  obtain ⟨X, hXX⟩ : ∃ X, heapB L = X := ⟨_, rfl⟩
  rw [hN, hQ]
  rw [hXX] at hX hun hb
  have hXl : X.length = partP Q N := by rw [hX, ← hQl, part_full (N := Q.length)]
  have hXb : X.length ≤ 4 + 1000 * 65541 := by
    have h1 := flat_len Q hQs
    rw [hX, List.length_append, digs_len]
    have h2 : Q.length * 65541 ≤ 1000 * 65541 := Nat.mul_le_mul_right _ (by omega)
    omega
  have hm : m = X.length + 4 := by rw [← hb.len]; exact seal_len X
  have HU := Lib.hid (unseal_any A m c _ w (by omega) hc hb hG)
  have HUN := Lib.hid hun
  have HX := Lib.hid hX
  have HQS := Lib.hid hQs
  have HLAST := Lib.hid hlast
  have HQL := Lib.hid hQl
  have HXL := Lib.hid hXl
  have HNB := Lib.hid (show N ≤ 1000 by omega)
  obtain ⟨lx, hlx⟩ : ∃ lx, X.length = lx := ⟨_, rfl⟩
  have HLX := Lib.hid hlx
  have HLXB := Lib.hid (show lx ≤ 70000000 by omega)
  clear hb hG hun hX hQl hQs hlast hXl hXb hm hlx hNl hN hQ hXX hsm hl hc
  go_enter Tryd.func16, Tryd.ntmps16
  go_wp2_with (go_at_call 29; refine HU.out.mono ?_; rintro _ w2 ⟨V, z, out, rfl, hi, hr, hb2⟩; obtain ⟨rfl, rfl⟩ := hi.uniq HUN.out; refine Hid.out ?_)
  obtain ⟨A2, C2, rfl, hcp, hy2⟩ : ∃ A2 C2, V = .slice A2 out.length C2 ∧ out.length ≤ C2 ∧ Byt w2 w2.heap.size A2 out.length out := by
    obtain ⟨A2, C2, rfl, hy⟩ := hr.byt
    refine ⟨A2, C2, rfl, ?_, hy⟩
    rcases hr.own.2 with ⟨hv, h1⟩ | ⟨g, cap, cur, hv, _, _, hc, _⟩
    · injection hv with e1 e2 e3; omega
    · injection hv with e1 e2 e3; omega
  rw [HLX.out] at hcp hy2 ⊢
  have HB2 := Lib.hid hb2
  have HY2 := Lib.hid hy2
  have HCP := Lib.hid hcp
  have h4 : 4 ≤ lx := by rw [← HLX.out, HX.out, List.length_append, digs_len]; omega
  have hgv : lval (lows true ((out.drop 0).take 4)) = N := by rw [List.drop_zero, HX.out, List.take_left' (by rw [digs_len]), lo4 _ (by have := HNB.out; omega)]
  have HGT := Lib.hid (show Calls Tryd.prog 30 #[.slice A2 lx C2, .int .i64 0, .int .i64 4, .bool true] w2 _ from oget_ok true 4 0 lx C2 A2 out w2 (by omega) (by omega) (by have := HLXB.out; omega) HCP.out (by omega) HY2.out)
  rw [hgv] at HGT
  have n1 : ¬ (65536 : Int) < (N : Int) := by have := HNB.out; omega
  have n2 : IntKind.i64.wrap (N : Int) = (N : Int) := by have := HNB.out; rw [IntKind.wrap_i64]; omega
  clear hi hr hb2 hcp hy2 hgv h4
  refine go_on ?_
  go_wp2_with (go_at_call 30; refine HGT.out.mono ?_; rintro _ w3 ⟨rfl, hb3⟩; refine Hid.out ?_)
  have HB3 := Lib.hid (below_more HB2.out hb3)
  have HY3 := Lib.hid ((HY2.out.later hb3).up hb3.size)
  have HNW := Lib.hid (new_any w3)
  clear hb3
  refine go_on ?_
  go_wp2_with (go_at_call 17; refine HNW.out.mono ?_; rintro _ w4 ⟨hb, S, rfl, ⟨mb, D, Lv, h⟩, hS, hbe⟩; refine Hid.out ?_)
  have HH4 := Lib.hid h
  have HS4 := Lib.hid hS
  have HB4 := Lib.hid hbe
  have HMB := Lib.hid (show w3.heap.size ≤ mb from hS _ h.sm)
  clear h hS hbe HNW
  refine go_on ?_
  go_wp2
  go_loopw [8, 9, 36] (fun a l i wr => ∃ (k : Nat) (S : Nat → Prop) (D : DataW Value) (Lv : List (Option Value)), i = .int .i64 k ∧ k ≤ N ∧ a = .int .i64 (partP Q k : Int) ∧ l = .bool (lastB Q k) ∧ HpR wr S hb mb D Lv (Q.take k) ∧ (∀ j, S j → w3.heap.size ≤ j) ∧ Below w3.heap.size w3 wr) (fun _ _ i _ => N - (RowKit.intOf i).toNat)
  case atStart => exact ⟨0, S, D, Lv, rfl, Nat.zero_le _, by simp [partP], rfl, by rw [List.take_zero]; exact HH4.out, HS4.out, HB4.out⟩
  case round =>
    obtain ⟨k, S5, D5, Lv5, rfl, hk, rfl, rfl, hp, hS5, hb5⟩ := hrel
    have HH5 := Lib.hid hp
    have HS5 := Lib.hid hS5
    have HB5 := Lib.hid hb5
    clear hp hS5 hb5 HH4 HS4 HB4
    by_cases hlt : k < N
    · have hltz : (k : Int) < (N : Int) := by omega
      have HKN := Lib.hid (show k < 1000 by have := HNB.out; omega)
      obtain ⟨o, ho⟩ : ∃ o, Q[k]? = some o := ⟨_, List.getElem?_eq_getElem (by rw [HQL.out]; exact hlt)⟩
      have HO := Lib.hid ho
      have hple := part_le (N := N) ho
      rw [← HX.out, HLX.out] at hple
      have hps := partP_succ ho
      have htk : Q.take (k + 1) = Q.take k ++ [o] := by rw [List.take_add_one, ho]; rfl
      have HTK := Lib.hid htk
      have HPS := Lib.hid hps
      have hsl1 : 1 ≤ (slotB o).length := by cases o <;> simp [slotB]
      obtain ⟨P, hP⟩ : ∃ P, partP Q k = P := ⟨_, rfl⟩
      have HP := Lib.hid hP
      rw [hP] at hple
      have m1 : ¬ (lx : Int) ≤ (P : Int) := by omega
      have m2 : (P : Int) < (lx : Int) := by omega
      have m3 : (0 : Int) ≤ (P : Int) := by omega
      have m4 : IntKind.i64.wrap ((P : Int) + 1) = ((P + 1 : Nat) : Int) := by have := HLXB.out; rw [IntKind.wrap_i64]; omega
      have hy5 := HY3.out.later HB5.out
      obtain ⟨b, ob, hAe, hbl, hcell⟩ := hy5.at_ (by omega)
      subst hAe
      have hPx : P < out.length := by rw [HLX.out]; omega
      have cP : wr.cell? ⟨b, ob + P, none⟩ = some (.int .u8 (out[P] : Nat)) := hcell P hPx
      rw [hP]
      clear hcell hps htk hP
      rcases o with _ | x
      · have hb0 : out[P] = 0 := by
          have h1 := part_none (N := N) ho
          rw [← HX.out, HP.out, List.getElem?_eq_getElem hPx] at h1
          exact Option.some.inj h1
        rw [hb0] at cP
        have HHN := Lib.hid (HH5.out.none_snoc)
        rw [← HTK.out] at HHN
        have hp1 : partP Q (k + 1) = P + 1 := by rw [HPS.out, HP.out]; rfl
        have hl1 : lastB Q (k + 1) = false := by rw [lastB, HO.out]
        have HP1 := Lib.hid hp1
        have HL1 := Lib.hid hl1
        clear hb0 hp1 hl1 hPx ho hple hsl1 hy5 hbl
        go_wp2
        go_roundw
        case rel => exact ⟨k + 1, S5, D5, Lv5 ++ [none], by go_num, by omega, by rw [HP1.out]; push_cast; rfl, by rw [HL1.out], HHN.out, HS5.out, HB5.out⟩
        case measure => simp [RowKit.intOf]; omega
      · have hxs := HQS.out x (List.mem_of_getElem? ho)
        obtain ⟨h1, h2, h3, h4⟩ := part_some (N := N) ho hxs
        rw [← HX.out, HP.out] at h1 h2 h3 h4
        have hb1 : out[P] = 1 := by
          rw [List.getElem?_eq_getElem hPx] at h1
          exact Option.some.inj h1
        rw [hb1] at cP
        have HGB := Lib.hid (getb8_ok (P + 1) lx C2 x.length (some ⟨b, ob, none⟩) out wr (by have := HLXB.out; omega) HCP.out (hy5.up HB5.out.size) h2 hxs (by rw [HLX.out] at h4; exact h4))
        rw [h3] at HGB
        have hp1 : partP Q (k + 1) = P + 1 + 4 + x.length := by rw [HPS.out, HP.out]; simp [slotB, digs_len]; omega
        have hl1 : lastB Q (k + 1) = true := by rw [lastB, HO.out]
        have HP1 := Lib.hid hp1
        have HL1 := Lib.hid hl1
        have HXS := Lib.hid hxs
        have hkey := keyI (z := (k : Int)) (by omega) (by have := HKN.out; omega)
        have HKEY := Lib.hid hkey
        clear hb1 hp1 hl1 hPx ho hple hsl1 hy5 hbl h1 h2 h3 h4 hxs hkey
        go_wp2_with (go_at_call 31; refine HGB.out.mono ?_; rintro _ w6 ⟨V6, rfl, hr6, hb6⟩; refine Hid.out ?_)
        have HR6 := Lib.hid hr6
        have HB6 := Lib.hid hb6
        have HH6 := Lib.hid (HH5.out.later hb6)
        have hlv : cntL Lv5 ≤ 1000 := by
          have h1 := cntL_le Lv5
          have h2 := HH5.out.len
          have h3 := HKN.out
          rw [List.length_take] at h2
          omega
        obtain ⟨v0, st, w7, hrun7, -, hent⟩ := own_entry HH6.out.own (by unfold maxLen; omega) HKEY.out
        obtain ⟨w8, hrun8, hown8, hgr8⟩ := hent V6
        have c0 : w6.cell? ⟨hb, 0, none⟩ = some (.map (some mb)) := HH6.out.box.cell 0
        have hkl : (k : Int) = ((Q.take k).length : Int) := by rw [List.length_take, HQL.out]; omega
        rw [hkl] at hown8
        obtain ⟨S8, D8, Lv8, hh8, hS8⟩ := HH5.out.snoc HR6.out HB6.out HXS.out hgr8 hown8
        rw [← HTK.out] at hh8
        have HH8 := Lib.hid hh8
        have HS8 := Lib.hid (show ∀ j, S8 j → w3.heap.size ≤ j from fun j hj => (hS8 j hj).elim (HS5.out j) (fun h => Nat.le_trans HB5.out.size h))
        have HB8 := Lib.hid (below_turn (below_more HB5.out HB6.out) (Nat.le_trans HB5.out.size HB6.out.size) hgr8 HMB.out)
        have HQ1 := Lib.hid (show ((P + 1 : Nat) : Int) + 4 + (x.length : Int) = ((P + 1 + 4 + x.length : Nat) : Int) by push_cast; rfl)
        clear hr6 hb6 hent hown8 hgr8 hh8 hS8 hkl cP
        refine go_on ?_
        go_wp2
        go_roundw
        case rel => exact ⟨k + 1, S8, D8, Lv8, by go_num, by omega, by rw [HP1.out]; first | rfl | (congr 1; push_cast; omega), by rw [HL1.out], HH8.out, HS8.out, HB8.out⟩
        case measure => simp [RowKit.intOf]; omega
    · obtain rfl : k = N := by omega
      have hpf : partP Q k = lx := by rw [← HXL.out, HLX.out]
      rw [hpf, HLAST.out]
      have htk : Q.take k = Q := List.take_of_length_le (by rw [HQL.out]; exact Nat.le_refl _)
      rw [htk] at HH5
      have n9 : ((lx : Int) != (lx : Int)) = false := by simp
      have HB9 := Lib.hid (HB3.out.trans (HB5.out.mono HB3.out.size))
      clear hpf htk
      go_wp2
      go_ret2
      exact ⟨hb, S5, rfl, ⟨mb, D5, Lv5, HH5.out⟩, fun j hj => Nat.le_trans HB3.out.size (HS5.out j hj), HB9.out⟩
end Go.Proofs.YtpajimkebnfneaaDoor.X5
