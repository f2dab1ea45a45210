/- The law ExtentLoads. -/
import Derived.Test.YtkdfafaiabidgaaDoorKcj
import Derived.Test.YtkdfafaiabidgaaDoorKt
namespace Go.Proofs.YtkdfafaiabidgaaDoor.X5
set_option linter.unusedVariables false
set_option linter.unusedSimpArgs false
open Go.RowKit Wd Ty9

theorem bxor8 (a b : Nat) (ha : a < 256) (hb : b < 256) : bits .xor .u8 (a : Int) (b : Int) = ((a ^^^ b : Nat) : Int) := by
  have h : a ^^^ b < 2 ^ 8 := Nat.xor_lt_two_pow (by omega) (by omega)
  show IntKind.u8.wrap (((BitVec.ofInt 8 (a : Int) ^^^ BitVec.ofInt 8 (b : Int)).toNat : Nat) : Int) = _
  rw [BitVec.ofInt_natCast, BitVec.ofInt_natCast, BitVec.toNat_xor, BitVec.toNat_ofNat, BitVec.toNat_ofNat, Nat.mod_eq_of_lt (by omega), Nat.mod_eq_of_lt (by omega)]
  generalize a ^^^ b = c at h ⊢
  simp [IntKind.wrap, IntKind.bits, IntKind.signed]
  omega
theorem xor_ne {a b : Nat} (hb : b ≠ 0) : a ^^^ b ≠ a := by
  intro h
  have h2 : a ^^^ (a ^^^ b) = a ^^^ a := by rw [h]
  rw [← Nat.xor_assoc, Nat.xor_self, Nat.zero_xor] at h2
  exact hb h2
theorem turned_bad {x : List Nat} (hlt : ∀ y ∈ x, y < 256) {k y : Nat} (hk : k < (sealL x).length) (hy : y < 256) (hne : y ≠ (sealL x)[k]) : IsUn ((sealL x).set k y) 5 [] := by
  have hsl := seal_len x
  have hl : ((sealL x).set k y).length = x.length + 4 := by rw [List.length_set, hsl]
  refine .inr (.inl ⟨by omega, ?_, rfl, rfl⟩)
  rw [hl, Nat.add_sub_cancel]
  intro h
  rcases Nat.lt_or_ge k x.length with hkx | hkx
  · have e1 : (sealL x).set k y = x.set k y ++ digs 4 false (crcN x) := by unfold sealL; rw [List.set_append_left _ _ hkx]
    have e2 : ((sealL x).set k y).take x.length = x.set k y := by rw [e1]; exact List.take_left' (by rw [List.length_set])
    rw [e2, e1] at h
    unfold sealL at h
    have h2 := List.append_cancel_left h
    have h3 := congrArg lval h2
    have c1 := crcN_lt x
    have c2 := crcN_lt (x.set k y)
    rw [lval_digs, lval_digs, Nat.mod_eq_of_lt (by omega), Nat.mod_eq_of_lt (by omega)] at h3
    have h4 := crcN_set x k y hkx (hlt _ (List.getElem_mem hkx)) hy h3.symm
    apply hne
    rw [← h4]
    exact (List.getElem_append_left hkx).symm
  · have e1 : (sealL x).set k y = x ++ (digs 4 false (crcN x)).set (k - x.length) y := by unfold sealL; rw [List.set_append_right _ _ hkx]
    have e2 : ((sealL x).set k y).take x.length = x := by rw [e1]; exact List.take_left' rfl
    rw [e2] at h
    apply hne
    have h3 : ((sealL x).set k y)[k]'(by rw [List.length_set]; exact hk) = (sealL x)[k] := by simp only [h]
    rw [List.getElem_set_self] at h3
    exact h3
theorem turned_load {bs : List Nat} {z : Int} {l : List Xt} (hu : IsUn bs 5 []) (h : IsLoad bs z l) : z = 5 ∧ l = [] := by
  rcases h with ⟨a1, _, a3⟩ | ⟨x, a1, _⟩
  · exact ⟨(a1.uniq hu).1, a3⟩
  · exact absurd (a1.uniq hu).1 (by decide)
theorem un_seal (x : List Nat) : IsUn (sealL x) 0 x := by
  have hsl := seal_len x
  have e : (sealL x).take ((sealL x).length - 4) = x := by rw [hsl, Nat.add_sub_cancel]; unfold sealL; exact List.take_left' rfl
  exact .inr (.inr ⟨by omega, by rw [e], rfl, by rw [e]⟩)
theorem own_load {xs : List Xt} (hg : goodP xs 4194304) : IsLoad (sealL (bytesL xs)) 0 xs := .inr ⟨bytesL xs, un_seal _, .inr ⟨⟨hg, rfl⟩, rfl⟩⟩
theorem tmod_k (p : Int) (L : Nat) (hL : 0 < L) : ∃ k : Nat, k < L ∧ (p.tmod L + L).tmod L = (k : Int) ∧ -(L : Int) < p.tmod L ∧ p.tmod L < L := by
  have h1 := Int.tmod_lt_of_pos p (show (0 : Int) < L by omega)
  have h2 : -(L : Int) < p.tmod L := by
    have h3 := Int.tmod_lt_of_pos (-p) (show (0 : Int) < L by omega)
    rw [Int.neg_tmod] at h3
    omega
  have h4 := Int.tmod_lt_of_pos (p.tmod L + L) (show (0 : Int) < L by omega)
  have h5 : 0 ≤ (p.tmod L + L).tmod L := Int.tmod_nonneg _ (by omega)
  exact ⟨((p.tmod L + L).tmod L).toNat, by omega, by omega, h2, h1⟩

set_option maxHeartbeats 1000000 in
set_option maxRecDepth 100000 in
theorem eloads_walk (w : World) (hG : Gs w) (A : Option Addr) (n C : Nat) (xs : List Xt) (hn : (n + 1) * 16 ≤ 140737488355328) (hA : A = none → C = 0) (h : Ex w 0 w.heap.size A n xs) (p : Int) (hp : -9223372036854775808 ≤ p ∧ p ≤ 9223372036854775807) (by_ : Nat) (hby : by_ < 256) :
    Calls Tryd.prog 4 #[.slice A n C, .int .i64 p, .int .u8 by_] w fun e w' => e = .returned (.bool true) ∧ Below w.heap.size w w' := by
  have hl := h.len
  have HX := Lib.hid h
  have HGS := Lib.hid hG
  clear hG
  by_cases hbig : 300 < n
  · have z1 : (300 : Int) < (n : Int) := by omega
    clear h
    go_enter Tryd.func4, Tryd.ntmps4
    go_wp2_with (go_at_call 6; refine (lives_any w).mono ?_; rintro _ w2 ⟨rfl, hb⟩; have HB2 := Lib.hid hb; clear hb)
    go_ret
    exact ⟨rfl, HB2.out⟩
  have z1 : ¬ (300 : Int) < (n : Int) := by omega
  have HBY := Lib.hid (bytes_any A n C 0 w.heap.size xs w (by omega) h (Nat.le_refl _) HGS.out)
  clear h
  by_cases hg : goodP xs 4194304
  · have HGO := Lib.hid hg
    clear hg
    go_enter Tryd.func4, Tryd.ntmps4
    go_wp2_with (go_at_call 8; refine HBY.out.mono ?_; rintro _ w1 ⟨V1, z1', o1, rfl, hy1, hr1, hb⟩; refine Hid.out ?_)
    obtain ⟨rfl, ho1⟩ : z1' = 0 ∧ o1 = sealL (bytesL xs) := by
      rcases hy1 with ⟨h, _, _⟩ | ⟨_, h1, h2⟩
      · exact absurd HGO.out h
      · exact ⟨h1, h2⟩
    obtain ⟨L, hL⟩ : ∃ L, o1.length = L := ⟨_, rfl⟩
    have hL8 : L = n * 8 + 8 := by rw [← hL, ho1, seal_len, bytesL_len, hl]
    have hL0 : 0 < L := by omega
    have hL9 : L ≤ 3000 := by omega
    clear hL8
    obtain ⟨g, cap, hV, hg1, hg2⟩ := hr1.own.form (by rw [hL]; exact hL0)
    rw [hL] at hV
    subst hV
    obtain ⟨A1', c1', hV, hcap, hbt1⟩ := row_cap hr1
    rw [hL] at hV hcap hbt1
    cases hV
    have HR1 := Lib.hid hr1
    have HB1 := Lib.hid hb
    have HO1 := Lib.hid ho1
    have HLL := Lib.hid hL
    have HGD := Lib.hid (good_any A n C 0 w.heap.size xs 4194304 w1 (by omega) (HX.out.later hb (Nat.le_refl _)) hb.size)
    clear hy1 hr1 hb ho1 hL HBY hbt1
    refine go_on ?_
    go_wp2_with (go_at_call 15; refine HGD.out.mono ?_; rintro _ w2 ⟨he, hb⟩; rw [decide_eq_true HGO.out] at he; subst he; refine Hid.out ?_)
    have HR2 := Lib.hid (HR1.out.below hb)
    have HB2 := Lib.hid (below_more HB1.out hb)
    have hbt2 := Byt.of_own (by have h1 := HR2.out.own; rw [HLL.out] at h1; exact h1) HR2.out.lt
    have HLD := Lib.hid (load_any (some ⟨g, 0, none⟩) L cap o1 w2 (by omega) hcap hbt2 (HGS.out.later HB2.out (Nat.le_refl _)))
    clear hb hbt2 HGD
    refine go_on ?_
    go_wp2_with (go_at_call 11; refine HLD.out.mono ?_; rintro _ w3 ⟨A3, C3, k3, z3, l3, rfl, hy3, hl3, hown3, hb⟩; refine Hid.out ?_)
    have hz := hy3.uniq (show IsLoad o1 0 xs by rw [HO1.out]; exact own_load HGO.out)
    obtain ⟨rfl, rfl⟩ := hz
    obtain ⟨_, _, ev, -, hex3, -⟩ := own_ex hown3
    cases ev
    have HE3 := Lib.hid hex3
    have HR3 := Lib.hid (HR2.out.below hb)
    have HB3 := Lib.hid (below_more HB2.out hb)
    have HP := Lib.hid (plain_any A n C 0 w.heap.size l3 w3 (by omega) (HX.out.later HB3.out (Nat.le_refl _)) HB3.out.size)
    clear hy3 hown3 hex3 hb HLD
    refine go_on ?_
    go_wp2_with (go_at_call 10; refine HP.out.mono ?_; rintro _ w5 ⟨V5, rfl, how5⟩; refine Hid.out ?_)
    obtain ⟨A5, C5, hV, -, hex5, -⟩ := own_ex how5.own
    rw [hl] at hV hex5
    subst hV
    have hb := how5.be
    have HR5 := Lib.hid (HR3.out.below hb)
    have HB5 := Lib.hid (below_more HB3.out hb)
    have HQ := Lib.hid (same_any A3 A5 k3 n C3 C5 _ _ _ _ l3 l3 w5 (by omega) (HE3.out.later hb (Nat.le_refl _)) hb.size hex5 (Nat.le_refl _))
    clear how5 hex5 hb HP
    refine go_on ?_
    go_wp2_with (go_at_call 13; refine HQ.out.mono ?_; rintro _ w6 ⟨he, hb⟩; rw [decide_eq_true rfl] at he; subst he; refine Hid.out ?_)
    have HR6 := Lib.hid (HR5.out.below hb)
    have HB6 := Lib.hid (below_more HB5.out hb)
    clear hb HQ
    have z2 : ((L : Int) == 0) = false := by simp; omega
    have z3 : ¬ (L : Int) = 0 := by omega
    have z4 : ¬ L = 0 := by omega
    by_cases hb0 : by_ = 0
    · subst hb0
      refine go_on ?_
      go_wp2_with (go_at_call 6; refine (lives_any w6).mono ?_; rintro _ w7 ⟨rfl, hb⟩; have HB7 := Lib.hid (below_more HB6.out hb); clear hb)
      go_ret
      exact ⟨rfl, HB7.out⟩
    · have z5 : ((by_ : Int) == 0) = false := by simp; omega
      obtain ⟨k, hkL, hk2, hk3, hk4⟩ := tmod_k p L (by omega)
      have q1 : IntKind.i64.wrap (p.tmod L + L) = p.tmod L + L := IntWalk.i64_in _ (by omega)
      have q1' : wrap64 (p.tmod L + L) = p.tmod L + L := by unfold wrap64; omega
      have hkz : (k : Int) < (L : Int) := by omega
      have hko : k < o1.length := by rw [HLL.out]; exact hkL
      have hRl : Rl w.heap.size (.slice (some ⟨g, 0, none⟩) L cap) w6 (.slice (some ⟨g, 0, none⟩) L cap) o1 w6 := ⟨HR6.out.own, HR6.out.lt, World.grownBy.refl _ _, .inl rfl⟩
      have c0 := hRl.cellAt HLL.out.symm k hko
      have f0 := hRl.frozenAt HLL.out.symm k
      have ha := HR6.out.lt o1[k] (List.getElem_mem hko)
      have HNE := Lib.hid (xor_ne (a := o1[k]) hb0)
      have hx := bxor8 o1[k] by_ ha hby
      have hc : o1[k] ^^^ by_ < 256 := Nat.xor_lt_two_pow (n := 8) (by omega) (by omega)
      have HUN := Lib.hid (show ∀ v, v < 256 → v ≠ o1[k] → IsUn (o1.set k v) 5 [] from fun v hv hvn => by
        have ho := HO1.out
        subst ho
        exact turned_bad (numB_lt _) hko hv hvn)
      have HUX := Lib.hid (HUN.out (o1[k] ^^^ by_) hc HNE.out)
      have hset := hRl.set HLL.out.symm k (o1[k] ^^^ by_) hc
      have HB7 := Lib.hid (HB6.out.trans (hset.keep (B := w.heap.size) HB6.out.size (fun q hq => by
        obtain rfl : g = q := Option.some.inj (show some g = some q from hq)
        exact hg1)))
      have HR7 := Lib.hid (show RowB (w6.setCell ⟨g, k, none⟩ (.int .u8 ((o1[k] ^^^ by_ : Nat) : Int))) w.heap.size (.slice (some ⟨g, 0, none⟩) L cap) (o1.set k (o1[k] ^^^ by_)) from ⟨hset.own, hset.lt⟩)
      generalize o1[k] ^^^ by_ = v at *
      have hsl : (o1.set k v).length = L := by rw [List.length_set]; exact HLL.out
      have hbt7 := Byt.of_own (by have h1 := HR7.out.own; rw [hsl] at h1; exact h1) HR7.out.lt
      have HLD7 := Lib.hid (load_any (some ⟨g, 0, none⟩) L cap (o1.set k v) (w6.setCell ⟨g, k, none⟩ (.int .u8 v)) (by omega) hcap hbt7 (HGS.out.later HB7.out (Nat.le_refl _)))
      clear hRl hset hbt7 hsl hc HUN HNE
      generalize o1[k] = a at *
      clear hko ha
      refine go_on ?_
      go_wp2_with (go_at_call 11; refine HLD7.out.mono ?_; rintro _ w8 ⟨A8, C8, k8, z8, l8, rfl, hy8, hl8, hown8, hb⟩; refine Hid.out ?_)
      obtain ⟨rfl, rfl⟩ := turned_load HUX.out hy8
      obtain rfl : k8 = 0 := by rw [← hl8]; rfl
      have HB8 := Lib.hid (below_more HB7.out hb)
      clear hy8 hl8 hown8 hb HLD7 c0 f0
      refine go_on ?_
      go_wp2_with (go_at_call 6; refine (lives_any w8).mono ?_; rintro _ w9 ⟨rfl, hb⟩; have HB9 := Lib.hid (below_more HB8.out hb); clear hb)
      go_ret
      exact ⟨rfl, HB9.out⟩
  · have HGO := Lib.hid hg
    clear hg
    go_enter Tryd.func4, Tryd.ntmps4
    go_wp2_with (go_at_call 8; refine HBY.out.mono ?_; rintro _ w1 ⟨V1, z1', o1, rfl, hy1, hr1, hb⟩; refine Hid.out ?_)
    obtain ⟨rfl, rfl⟩ : z1' = 2 ∧ o1 = [] := by
      rcases hy1 with ⟨_, h1, h2⟩ | ⟨h, _, _⟩
      · exact ⟨h1, h2⟩
      · exact absurd h HGO.out
    obtain ⟨A1, c1, rfl, -⟩ := hr1.byt
    rw [List.length_nil]
    have HB1 := Lib.hid hb
    have HGD := Lib.hid (good_any A n C 0 w.heap.size xs 4194304 w1 (by omega) (HX.out.later hb (Nat.le_refl _)) hb.size)
    clear hy1 hr1 hb HBY
    refine go_on ?_
    go_wp2_with (go_at_call 15; refine HGD.out.mono ?_; rintro _ w2 ⟨he, hb⟩; rw [decide_eq_false HGO.out] at he; subst he; refine Hid.out ?_)
    have HB2 := Lib.hid (below_more HB1.out hb)
    clear hb HGD
    refine go_on ?_
    go_wp2_with (go_at_call 6; refine (lives_any w2).mono ?_; rintro _ w7 ⟨rfl, hb⟩; have HB7 := Lib.hid (below_more HB2.out hb); clear hb)
    go_ret
    exact ⟨rfl, HB7.out⟩
end Go.Proofs.YtkdfafaiabidgaaDoor.X5
