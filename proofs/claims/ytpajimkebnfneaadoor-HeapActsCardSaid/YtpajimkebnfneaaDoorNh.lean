/- Rows of rows of bytes; the law's heap with things (filled). -/
import Derived.Test.YtpajimkebnfneaaDoorNg
import Derived.Test.YtpajimkebnfneaaDoorKce
namespace Go.Proofs.YtpajimkebnfneaaDoor.X5
set_option linter.unusedVariables false
set_option linter.unusedSimpArgs false
open Go.RowKit Go.Maps Wd Ty9

/-! ### one byte that is another one -/
theorem bxor8 (a b : Nat) (ha : a < 256) (hb : b < 256) : bits .xor .u8 (a : Int) (b : Int) = ((a ^^^ b : Nat) : Int) := by
  have h : a ^^^ b < 2 ^ 8 := Nat.xor_lt_two_pow (by omega) (by omega)
  show IntKind.u8.wrap (((BitVec.ofInt 8 (a : Int) ^^^ BitVec.ofInt 8 (b : Int)).toNat : Nat) : Int) = _
  rw [BitVec.ofInt_natCast, BitVec.ofInt_natCast, BitVec.toNat_xor, BitVec.toNat_ofNat, BitVec.toNat_ofNat, Nat.mod_eq_of_lt (by omega), Nat.mod_eq_of_lt (by omega)]
  generalize a ^^^ b = c at h ⊢
  simp [IntKind.wrap, IntKind.bits, IntKind.signed]
  omega
theorem xor_ne {a b : Nat} (hb : b ≠ 0) : a ^^^ b ≠ a := by
  intro h
  have h2 : a ^^^ (a ^^^ b) = a ^^^ a := by rw [h]
  rw [← Nat.xor_assoc, Nat.xor_self, Nat.zero_xor] at h2
  exact hb h2
theorem turned_bad {x : List Nat} (hlt : ∀ y ∈ x, y < 256) {k y : Nat} (hk : k < (sealL x).length) (hy : y < 256) (hne : y ≠ (sealL x)[k]) : IsUn ((sealL x).set k y) 5 [] := by
  have hsl := seal_len x
  have hl : ((sealL x).set k y).length = x.length + 4 := by rw [List.length_set, hsl]
  refine .inr (.inl ⟨by omega, ?_, rfl, rfl⟩)
  rw [hl, Nat.add_sub_cancel]
  intro h
  rcases Nat.lt_or_ge k x.length with hkx | hkx
  · have e1 : (sealL x).set k y = x.set k y ++ digs 4 false (crcN x) := by unfold sealL; rw [List.set_append_left _ _ hkx]
    have e2 : ((sealL x).set k y).take x.length = x.set k y := by rw [e1]; exact List.take_left' (by rw [List.length_set])
    rw [e2, e1] at h
    unfold sealL at h
    have h2 := List.append_cancel_left h
    have h3 := congrArg lval h2
    have c1 := crcN_lt x
    have c2 := crcN_lt (x.set k y)
    rw [lval_digs, lval_digs, Nat.mod_eq_of_lt (by omega), Nat.mod_eq_of_lt (by omega)] at h3
    have h4 := crcN_set x k y hkx (hlt _ (List.getElem_mem hkx)) hy h3.symm
    apply hne
    rw [← h4]
    exact (List.getElem_append_left hkx).symm
  · have e1 : (sealL x).set k y = x ++ (digs 4 false (crcN x)).set (k - x.length) y := by unfold sealL; rw [List.set_append_right _ _ hkx]
    have e2 : ((sealL x).set k y).take x.length = x := by rw [e1]; exact List.take_left' rfl
    rw [e2] at h
    apply hne
    have h3 : ((sealL x).set k y)[k]'(by rw [List.length_set]; exact hk) = (sealL x)[k] := by simp only [h]
    rw [List.getElem_set_self] at h3
    exact h3
theorem un_seal (x : List Nat) : IsUn (sealL x) 0 x := by
  have hsl := seal_len x
  have e : (sealL x).take ((sealL x).length - 4) = x := by rw [hsl, Nat.add_sub_cancel]; unfold sealL; exact List.take_left' rfl
  exact .inr (.inr ⟨by omega, by rw [e], rfl, by rw [e]⟩)
theorem tmod_k (p : Int) (L : Nat) (hL : 0 < L) : ∃ k : Nat, k < L ∧ (p.tmod L + L).tmod L = (k : Int) ∧ -(L : Int) < p.tmod L ∧ p.tmod L < L := by
  have h1 := Int.tmod_lt_of_pos p (show (0 : Int) < L by omega)
  have h2 : -(L : Int) < p.tmod L := by
    have h3 := Int.tmod_lt_of_pos (-p) (show (0 : Int) < L by omega)
    rw [Int.neg_tmod] at h3
    omega
  have h4 := Int.tmod_lt_of_pos (p.tmod L + L) (show (0 : Int) < L by omega)
  have h5 : 0 ≤ (p.tmod L + L).tmod L := Int.tmod_nonneg _ (by omega)
  exact ⟨((p.tmod L + L).tmod L).toNat, by omega, by omega, h2, h1⟩

/-- A row of rows of bytes. -/
structure Ls (w : World) (A : Option Addr) (n : Nat) (ls : List (List Nat)) : Prop where
  len : ls.length = n
  at_ : ∃ (b o : Nat) (fA : Nat → Option Addr) (fC : Nat → Nat), (0 < n → A = some ⟨b, o, none⟩ ∧ b < w.heap.size) ∧ ∀ (i : Nat) (h : i < ls.length), w.cell? ⟨b, o + i, none⟩ = some (.slice (fA i) ls[i].length (fC i)) ∧ ls[i].length ≤ fC i ∧ ls[i].length ≤ 140737488355328 ∧ Byt w w.heap.size (fA i) ls[i].length ls[i]
theorem Ls.later {w w' : World} {A : Option Addr} {n : Nat} {ls : List (List Nat)} (h : Ls w A n ls) (hb : Below w.heap.size w w') : Ls w' A n ls := by
  obtain ⟨b, o, fA, fC, h1, h2⟩ := h.at_
  have hl := h.len
  refine ⟨hl, b, o, fA, fC, fun h0 => ⟨(h1 h0).1, Nat.lt_of_lt_of_le (h1 h0).2 hb.size⟩, fun i hi => ?_⟩
  obtain ⟨e1, e2, e3, e4⟩ := h2 i hi
  exact ⟨(hb.cell (p := ⟨b, o + i, none⟩) (h1 (by omega)).2).trans e1, e2, e3, (e4.later hb).up hb.size⟩
/-- A row of numbers. -/
structure Zs (w : World) (A : Option Addr) (n : Nat) (zs : List Int) : Prop where
  len : zs.length = n
  rg : ∀ z ∈ zs, -9223372036854775808 ≤ z ∧ z ≤ 9223372036854775807
  at_ : ∃ (b o : Nat), (0 < n → A = some ⟨b, o, none⟩ ∧ b < w.heap.size) ∧ ∀ (i : Nat) (h : i < zs.length), w.cell? ⟨b, o + i, none⟩ = some (.int .i64 zs[i])
theorem Zs.later {w w' : World} {A : Option Addr} {n : Nat} {zs : List Int} (h : Zs w A n zs) (hb : Below w.heap.size w w') : Zs w' A n zs := by
  obtain ⟨b, o, h1, h2⟩ := h.at_
  have hl := h.len
  exact ⟨hl, h.rg, b, o, fun h0 => ⟨(h1 h0).1, Nat.lt_of_lt_of_le (h1 h0).2 hb.size⟩, fun i hi => (hb.cell (p := ⟨b, o + i, none⟩) (h1 (by omega)).2).trans (h2 i hi)⟩
theorem Zs.nil (w : World) : Zs w none 0 [] := ⟨rfl, fun z h => absurd h List.not_mem_nil, 0, 0, fun h => absurd h (Nat.lt_irrefl _), fun i h => absurd h (Nat.not_lt_zero _)⟩

/-- The things that are added, one behind the other. -/
def fillL (ls : List (List Nat)) : List (Option (List Nat)) := (ls.filter fun x => decide (x.length ≤ 65536)).map some
theorem fill_snoc (ls : List (List Nat)) (x : List Nat) : fillL (ls ++ [x]) = if x.length ≤ 65536 then fillL ls ++ [some x] else fillL ls := by
  unfold fillL
  rw [List.filter_append, List.map_append]
  by_cases h : x.length ≤ 65536
  · rw [if_pos h]; simp [h]
  · rw [if_neg h]; simp [h]
theorem fill_len (ls : List (List Nat)) : (fillL ls).length ≤ ls.length := by
  unfold fillL; rw [List.length_map]; exact List.length_filter_le _ _
theorem hole_some {α : Type} : ∀ l : List α, hole (l.map some) = l.length
  | [] => rfl
  | x :: l => by simp [hole, hole_some l]
theorem fill_put (ls : List (List Nat)) (x : List Nat) : putL (fillL ls) (hole (fillL ls)) (some x) = fillL ls ++ [some x] := by
  have : hole (fillL ls) = (fillL ls).length := by unfold fillL; rw [hole_some, List.length_map]
  rw [this]
  unfold putL
  rw [if_neg (Nat.lt_irrefl _)]
open Classical in
noncomputable def dropL (L : List (Option (List Nat))) (z : Int) : List (Option (List Nat)) := if z ∈ idsL L then L.set z.toNat none else L
theorem dropL_len (L : List (Option (List Nat))) (z : Int) : (dropL L z).length = L.length := by unfold dropL; split <;> simp
theorem drops_len : ∀ (zs : List Int) (L : List (Option (List Nat))), (zs.foldl dropL L).length = L.length
  | [], _ => rfl
  | z :: zs, L => by rw [List.foldl_cons, drops_len zs, dropL_len]

section
variable {w : World} {S : Nat → Prop} {hb mb : Nat} {D : DataW Value} {Lv : List (Option Value)} {L : List (Option (List Nat))}
theorem add_big (h : HpR w S hb mb D Lv L) {X : Option Addr} {k d : Nat} (hk : 65536 < k) : Calls Tryd.prog 8 #[.pointer (some ⟨hb, 0, none⟩), .slice X k d] w fun e w' => e = .returned (.tuple #[.int .i64 0, .int .i64 3]) ∧ w' = w := by
  have HG := Lib.hid (good_yes hb mb w h.box)
  have hk2 : (65536 : Int) < (k : Int) := by omega
  clear h
  go_enter Tryd.func8, Tryd.ntmps8
  go_wp2_with (go_at_call 22; refine HG.out.mono ?_; rintro _ w2 ⟨rfl, rfl⟩)
  go_ret2
  exact ⟨rfl, rfl⟩
/-- Add, whatever is added. -/
theorem add_all (h : HpR w S hb mb D Lv L) (hl : L.length ≤ 60000) {X : Option Addr} {d : Nat} {xs : List Nat} (hx : Byt w w.heap.size X xs.length xs) :
    Calls Tryd.prog 8 #[.pointer (some ⟨hb, 0, none⟩), .slice X xs.length d] w fun e w' => (∃ i z : Int, e = .returned (.tuple #[.int .i64 i, .int .i64 z])) ∧
      (∃ S' D' Lv', HpR w' S' hb mb D' Lv' (if xs.length ≤ 65536 then putL L (hole L) (some xs) else L) ∧ (∀ j, S' j → S j ∨ w.heap.size ≤ j)) ∧ w.grownBy w' (some mb) := by
  by_cases hk : xs.length ≤ 65536
  · rw [if_pos hk]
    exact (add_any h hl hx hk).mono fun e w' ⟨he, h1, h2⟩ => ⟨⟨_, _, he⟩, h1, h2⟩
  · rw [if_neg hk]
    refine (add_big h (by omega)).mono fun e w' ⟨he, h1⟩ => ⟨⟨_, _, he⟩, ?_, ?_⟩
    · subst h1; exact ⟨S, D, Lv, h, fun j hj => .inl hj⟩
    · subst h1; exact World.grownBy.refl _ _
/-- Drop, whatever is dropped. -/
theorem drop_all (h : HpR w S hb mb D Lv L) (hl : L.length ≤ 60000) {z : Int} (h0 : -9223372036854775808 ≤ z) (h1 : z ≤ 9223372036854775807) :
    Calls Tryd.prog 10 #[.pointer (some ⟨hb, 0, none⟩), .int .i64 z] w fun e w' => (∃ y : Int, e = .returned (.int .i64 y)) ∧ (∃ D' Lv', HpR w' S hb mb D' Lv' (dropL L z)) ∧ w.grownBy w' (some mb) := by
  by_cases hz : z ∈ idsL L
  · obtain ⟨hz0, x, hx⟩ := (idsL_mem L z).mp hz
    have hi := (List.getElem?_eq_some_iff.mp hx).1
    have e : dropL L z = L.set z.toNat none := by unfold dropL; rw [if_pos hz]
    rw [e]
    obtain ⟨i, rfl⟩ : ∃ i : Nat, z = i := ⟨z.toNat, by omega⟩
    exact (drop_yes h hx (by simpa using (by omega : i ≤ 60000))).mono fun e w' ⟨he, h1, h2⟩ => ⟨⟨_, he⟩, h1, h2⟩
  · have e : dropL L z = L := by unfold dropL; rw [if_neg hz]
    rw [e]
    refine (drop_no h hz h0 h1).mono fun e w' ⟨he, h1⟩ => ⟨⟨_, he⟩, ?_, ?_⟩
    · subst h1; exact ⟨D, Lv, h⟩
    · subst h1; exact World.grownBy.refl _ _
end

set_option maxHeartbeats 4000000 in
set_option maxRecDepth 100000 in
theorem filled_any (w : World) (A : Option Addr) (n C : Nat) (ls : List (List Nat)) (h : Ls w A n ls) (hn : n ≤ 60000) (A2 : Option Addr) (n2 C2 : Nat) (zs : List Int) (h2 : Zs w A2 n2 zs) (hn2 : n2 ≤ 140737488355328) :
    Calls Tryd.prog 15 #[.slice A n C, .slice A2 n2 C2] w fun e w' => ∃ hb S, e = .returned (.pointer (some ⟨hb, 0, none⟩)) ∧ Hp w' S hb (zs.foldl dropL (fillL ls)) ∧ (∀ k, S k → w.heap.size ≤ k) ∧ Below w.heap.size w w' := by
  have HL := Lib.hid h
  have HZ := Lib.hid h2
  have HNW := Lib.hid (new_any w)
  clear h h2
  go_enter Tryd.func15, Tryd.ntmps15
  go_wp2_with (go_at_call 17; refine HNW.out.mono ?_; rintro _ w1 ⟨hb, S, rfl, ⟨mb, D, Lv, h⟩, hS, hbe⟩; refine Hid.out ?_)
  have HH1 := Lib.hid h
  have HS1 := Lib.hid hS
  have HB1 := Lib.hid hbe
  have HMB := Lib.hid (show w.heap.size ≤ mb from hS _ h.sm)
  clear h hS hbe
  refine go_on ?_
  go_wp2
  go_loopw [6] (fun i wr => ∃ (k : Nat) (S : Nat → Prop) (D : DataW Value) (Lv : List (Option Value)), i = .int .i64 k ∧ k ≤ n ∧ HpR wr S hb mb D Lv (fillL (ls.take k)) ∧ (∀ j, S j → w.heap.size ≤ j) ∧ Below w.heap.size w wr) (fun i _ => n - (RowKit.intOf i).toNat)
  case atStart => exact ⟨0, S, D, Lv, rfl, Nat.zero_le _, by rw [List.take_zero]; exact HH1.out, HS1.out, HB1.out⟩
  case round =>
    obtain ⟨k, S3, D3, Lv3, rfl, hk, hp, hS3, hb3⟩ := hrel
    have HH3 := Lib.hid hp
    have HS3 := Lib.hid hS3
    have HB3 := Lib.hid hb3
    clear hp hS3 hb3 HH1 HS1
    by_cases hlt : k < n
    · have hltz : (k : Int) < (n : Int) := by omega
      have hk0 : (0 : Int) ≤ (k : Int) := by omega
      have hll := HL.out.len
      obtain ⟨b, o, fA, fC, e1, e2⟩ := HL.out.at_
      obtain ⟨rfl, hbl⟩ := e1 (by omega)
      obtain ⟨c1, c2, c3, c4⟩ := e2 k (by omega)
      have ck : wr.cell? ⟨b, o + k, none⟩ = some (.slice (fA k) ls[k].length (fC k)) := (HB3.out.cell (p := ⟨b, o + k, none⟩) hbl).trans c1
      have hle : (fillL (ls.take k)).length ≤ 60000 := Nat.le_trans (fill_len _) (by rw [List.length_take]; omega)
      have HA := Lib.hid (add_all HH3.out hle (d := fC k) ((c4.later HB3.out).up HB3.out.size))
      have hts : ls.take (k + 1) = ls.take k ++ [ls[k]] := by rw [List.take_add_one, List.getElem?_eq_getElem (by omega)]; rfl
      have HTS := Lib.hid (show fillL (ls.take (k + 1)) = if ls[k].length ≤ 65536 then putL (fillL (ls.take k)) (hole (fillL (ls.take k))) (some ls[k]) else fillL (ls.take k) by rw [hts, fill_snoc, fill_put])
      clear c1 c2 c3 c4 e1 e2 hts
      generalize ls[k] = x at *
      generalize x.length = lx at *
      go_wp2_with (go_at_call 8; refine HA.out.mono ?_; rintro _ w4 ⟨⟨i1, i2, rfl⟩, ⟨S4, D4, Lv4, h4, hS4⟩, hg4⟩; refine Hid.out ?_)
      have HB4 := Lib.hid (below_turn HB3.out HB3.out.size hg4 HMB.out)
      have HH4 := Lib.hid h4
      rw [← HTS.out] at HH4
      have HS4 := Lib.hid (show ∀ j, S4 j → w.heap.size ≤ j from fun j hj => (hS4 j hj).elim (HS3.out j) (fun h => Nat.le_trans HB3.out.size h))
      clear h4 hS4 hg4
      refine go_on ?_
      go_wp2
      go_roundw
      case rel => exact ⟨k + 1, S4, D4, Lv4, by go_num, by omega, HH4.out, HS4.out, HB4.out⟩
      case measure => simp [RowKit.intOf]; omega
    · obtain rfl : k = n := by omega
      have HF := Lib.hid (show fillL (ls.take k) = fillL ls by rw [List.take_of_length_le (by have := HL.out.len; omega)])
      rw [HF.out] at HH3
      have hlen := Nat.le_trans (fill_len ls) (by have := HL.out.len; omega : ls.length ≤ 60000)
      have HLE := Lib.hid hlen
      clear hlen hlt
      go_wp2
      go_loopw [7] (fun i wr => ∃ (q : Nat) (S : Nat → Prop) (D : DataW Value) (Lv : List (Option Value)), i = .int .i64 q ∧ q ≤ n2 ∧ HpR wr S hb mb D Lv ((zs.take q).foldl dropL (fillL ls)) ∧ (∀ j, S j → w.heap.size ≤ j) ∧ Below w.heap.size w wr) (fun i _ => n2 - (RowKit.intOf i).toNat)
      case atStart => exact ⟨0, S3, D3, Lv3, rfl, Nat.zero_le _, by rw [List.take_zero]; exact HH3.out, HS3.out, HB3.out⟩
      case round =>
        obtain ⟨q, S5, D5, Lv5, rfl, hq, hp, hS5, hb5⟩ := hrel
        have HH5 := Lib.hid hp
        have HS5 := Lib.hid hS5
        have HB5 := Lib.hid hb5
        clear hp hS5 hb5 HH3 HS3 HB3
        by_cases hlt : q < n2
        · have hltz : (q : Int) < (n2 : Int) := by omega
          have hq0 : (0 : Int) ≤ (q : Int) := by omega
          have hll := HZ.out.len
          obtain ⟨b, o, e1, e2⟩ := HZ.out.at_
          obtain ⟨rfl, hbl⟩ := e1 (by omega)
          have cq := (HB5.out.cell (p := ⟨b, o + q, none⟩) hbl).trans (e2 q (by omega))
          have hrg := HZ.out.rg zs[q] (List.getElem_mem _)
          have hle : ((zs.take q).foldl dropL (fillL ls)).length ≤ 60000 := by rw [drops_len]; exact HLE.out
          have HA := Lib.hid (drop_all HH5.out hle hrg.1 hrg.2)
          have HTS := Lib.hid (show (zs.take (q + 1)).foldl dropL (fillL ls) = dropL ((zs.take q).foldl dropL (fillL ls)) zs[q] by rw [List.take_add_one, List.getElem?_eq_getElem (by omega), List.foldl_append]; rfl)
          clear e1 e2 hrg hle
          generalize zs[q] = z at *
          go_wp2_with (go_at_call 10; refine HA.out.mono ?_; rintro _ w6 ⟨⟨i1, rfl⟩, ⟨D6, Lv6, h6⟩, hg6⟩; refine Hid.out ?_)
          have HB6 := Lib.hid (below_turn HB5.out HB5.out.size hg6 HMB.out)
          have HH6 := Lib.hid h6
          rw [← HTS.out] at HH6
          clear h6 hg6
          refine go_on ?_
          go_wp2
          go_roundw
          case rel => exact ⟨q + 1, S5, D6, Lv6, by go_num, by omega, HH6.out, HS5.out, HB6.out⟩
          case measure => simp [RowKit.intOf]; omega
        · obtain rfl : q = n2 := by omega
          have hzt : zs.take q = zs := List.take_of_length_le (by have := HZ.out.len; omega)
          rw [hzt] at HH5
          clear hzt
          go_wp2
          go_ret
          exact ⟨hb, S5, rfl, ⟨mb, D5, Lv5, HH5.out⟩, HS5.out, HB5.out⟩
end Go.Proofs.YtpajimkebnfneaaDoor.X5
