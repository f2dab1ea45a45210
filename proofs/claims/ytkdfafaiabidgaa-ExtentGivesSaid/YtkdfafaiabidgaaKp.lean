/- The reference's ordered. -/
import Derived.Test.YtkdfafaiabidgaaKk
namespace Go.Proofs.Ytkdfafaiabidgaa.X5
set_option linter.unusedVariables false
set_option linter.unusedSimpArgs false
open Go.RowKit Wd Ty9

theorem cl_set2 {out : List Xt} {i : Nat} (hi : i < out.length) (y : Xt) : cl (out.set i y) = ((cl out).set (i * 2) (.int .i64 y.1)).set (i * 2 + 1) (.int .i64 y.2) := by
  apply List.ext_getElem?
  intro j
  rcases hj : (cl (out.set i y))[j]? with _ | u
  · rw [List.getElem?_eq_none_iff, cl_len, List.length_set] at hj
    symm
    rw [List.getElem?_eq_none_iff, List.length_set, List.length_set, cl_len]
    exact hj
  · symm
    rcases cl_set hi _ j u hj with ⟨rfl, rfl⟩ | ⟨rfl, rfl⟩ | ⟨n1, n2, hu⟩
    · rw [List.getElem?_set_ne (by omega), List.getElem?_set_self (by rw [cl_len]; omega)]
    · rw [List.getElem?_set_self (by rw [List.length_set, cl_len]; omega)]
    · rw [List.getElem?_set_ne (by omega), List.getElem?_set_ne (by omega)]; exact hu
theorem Ow.put2 {e : TypeId} {w wr : World} {g n cap : Nat} {out : List Xt} (h : Ow e w (.slice (some ⟨g, 0, none⟩) n cap) out wr) (hn : n = out.length) {i : Nat} (hi : i < out.length) (y : Xt) :
    Ow e w (.slice (some ⟨g, 0, none⟩) n cap) (out.set i y) ((wr.setCell ⟨g, i * 2, none⟩ (.int .i64 y.1)).setCell ⟨g, i * 2 + 1, none⟩ (.int .i64 y.2)) := by
  subst hn
  obtain ⟨h1, h2⟩ := h.own.stored (i * 2) (.int .i64 y.1)
  obtain ⟨h3, h4⟩ := h1.stored (i * 2 + 1) (.int .i64 y.2)
  refine ⟨?_, (h.be.grown h2 h.be.size (fun k hk => (h.own.lt k hk).1)).grown h4 (by have := h.be.size; simpa [World.setCell] using this) (fun k hk => (h.own.lt k hk).1)⟩
  rw [List.length_set, cl_set2 hi]
  exact h3
theorem insK_len (out : List Xt) (x : Xt) (k : Nat) (hk : k ≤ out.length) : (insK out x k).length = out.length + 1 := by
  unfold insK; simp; omega
theorem insK_step {ou : List Xt} {y : Xt} {j : Nat} (hj : j + 1 ≤ ou.length) : (insK ou y (j + 1)).set (j + 1) (ou[j]'(by omega)) = insK ou (ou[j]'(by omega)) j := by
  unfold insK
  have h1 : (ou.take (j + 1)).length = j + 1 := by rw [List.length_take]; omega
  rw [List.append_assoc, List.set_append_right _ _ (by omega), h1, Nat.sub_self]
  rw [show ou.take (j + 1) = ou.take j ++ [ou[j]'(by omega)] by rw [List.take_add_one, List.getElem?_eq_getElem (by omega)]; rfl, show ou.drop j = ou[j]'(by omega) :: ou.drop (j + 1) from List.drop_eq_getElem_cons (by omega)]
  simp
theorem insK_put {ou : List Xt} {y x : Xt} {k : Nat} (hk : k ≤ ou.length) : (insK ou y k).set k x = insK ou x k := by
  unfold insK
  have h1 : (ou.take k).length = k := by rw [List.length_take]; omega
  rw [List.append_assoc, List.set_append_right _ _ (by omega), h1, Nat.sub_self]
  simp
theorem insK_get {ou : List Xt} {y : Xt} {j : Nat} (hj : j + 1 ≤ ou.length) : (insK ou y (j + 1))[j]? = some (ou[j]'(by omega)) := by
  unfold insK
  rw [List.append_assoc, List.getElem?_append_left (by simp; omega), List.getElem?_take_of_lt (by omega), List.getElem?_eq_getElem]
theorem insK_end (ou : List Xt) (y : Xt) : insK ou y ou.length = ou ++ [y] := by unfold insK; simp

set_option maxHeartbeats 4000000 in
set_option maxRecDepth 100000 in
theorem ordered_any (A : Option Addr) (n C lo hi : Nat) (xs : List Xt) (w : World) (hn : (n + 1) * 16 ≤ 140737488355328) (h : Ex w lo hi A n xs) (hhi : hi ≤ w.heap.size) :
    Calls Try.prog 51 #[.slice A n C] w fun e w' => ∃ V d, e = .returned V ∧ d.Perm xs ∧ Asc d ∧ Ow 51 w V d w' := by
  have hl := h.len
  have HX := Lib.hid h
  clear h
  go_enter Try.func51, Try.ntmps51
  go_wp2
  go_loopw [3, 4] (fun v i wr => ∃ (k : Nat) (ou : List Xt), i = .int .i64 k ∧ k ≤ n ∧ Ow 51 w v ou wr ∧ Hid (ou.Perm (xs.take k)) ∧ Hid (Asc ou)) (fun _ i _ => n - (intOf i).toNat)
  case atStart => exact ⟨0, [], rfl, Nat.zero_le _, Ow.nil _ _, Lib.hid (by simp), Lib.hid List.Pairwise.nil⟩
  case round =>
    obtain ⟨q, ou, rfl, hq, how, HPM, HAS⟩ := hrel
    have hol : ou.length = q := by rw [HPM.out.length_eq, List.length_take]; omega
    obtain ⟨Af, Cf, hV⟩ := own_form how.own
    rw [hol] at hV
    subst hV
    have HOW := Lib.hid how
    clear how
    by_cases hlt : q < n
    · have hltz : (q : Int) < (n : Int) := by omega
      obtain ⟨b, o, rfl, hb1, hb2, -⟩ := HX.out.at_ (by omega)
      obtain ⟨c0, c1⟩ := HX.out.get rfl (i := q) (by omega)
      have hbw : b < w.heap.size := Nat.lt_of_lt_of_le hb2 hhi
      rw [← HOW.out.be.cell (p := ⟨b, o + q * 2, none⟩) hbw] at c0
      rw [← HOW.out.be.cell (p := ⟨b, o + q * 2 + 1, none⟩) hbw] at c1
      have htk : xs.take (q + 1) = xs.take q ++ [xs[q]] := by rw [List.take_add_one, List.getElem?_eq_getElem (by omega)]; rfl
      have HTK := Lib.hid htk
      clear htk
      have HC0 := Lib.hid c0
      have HC1 := Lib.hid c1
      generalize xs[q] = x at HTK HC0 HC1 c0 c1
      have HHOL := Lib.hid hol
      clear c0 c1 hol
      go_wp2
      generalize wr = wo at *
      have HOF := Lib.hid (show 0 < q → ∃ g, Af = some ⟨g, 0, none⟩ ∧ g < wo.heap.size ∧ ∀ i (h : i < ou.length), wo.cell? ⟨g, i * 2, none⟩ = some (.int .i64 ou[i].1) from fun h0 => by
        obtain ⟨g, cap, e, hg1, hg2⟩ := HOW.out.own.form (by have := HHOL.out; omega)
        cases e
        obtain ⟨_, _, ev, -, hex, -⟩ := own_ex HOW.out.own
        cases ev
        exact ⟨g, rfl, hg2, fun i hi => by have := (hex.get rfl hi).1; rwa [Nat.zero_add] at this⟩)
      go_loopw [5] (fun k5 w2 => ∃ (k : Nat), k5 = .int .i64 k ∧ k ≤ q ∧ Below wo.heap.size wo w2 ∧ Hid (∀ y ∈ ou.drop k, x.1 < y.1)) (fun k5 _ => (intOf k5).toNat)
      case atStart => exact ⟨q, rfl, Nat.le_refl _, Below.refl _ _, Lib.hid (by rw [List.drop_eq_nil_of_le (by have := HHOL.out; omega)]; simp)⟩
      case round =>
        obtain ⟨k, rfl, hk, hbe, HDR⟩ := hrel
        have HBE := Lib.hid hbe
        have hbwo : b < wo.heap.size := Nat.lt_of_lt_of_le hbw HOW.out.be.size
        have c0 := (hbe.cell (p := ⟨b, o + q * 2, none⟩) hbwo).trans HC0.out
        clear hbe
        by_cases hgo : 0 < k ∧ ∃ h : k - 1 < ou.length, x.1 < ou[k - 1].1
        · obtain ⟨hkp, hkl, hgt⟩ := hgo
          obtain ⟨g, rfl, hgw, hcell⟩ := HOF.out (by omega)
          obtain ⟨L, hL⟩ : ∃ L, L + 1 = k := ⟨k - 1, by omega⟩
          have hLl : L < ou.length := by omega
          have d0 := (HBE.out.cell (p := ⟨g, L * 2, none⟩) hgw).trans (hcell L hLl)
          have hgt2 : x.1 < ou[L].1 := by have : k - 1 = L := by omega
                                          simpa only [this] using hgt
          have s1 : IntKind.i64.wrap ((k : Int) - 1) = L := by rw [show (k : Int) - 1 = L by omega]; exact IntWalk.i64_in _ (by omega)
          have s2 : wrap64 ((k : Int) - 1) = L := by unfold wrap64; omega
          have s3 : (0 : Int) < (k : Int) := by omega
          have s4 : (L : Int) < (q : Int) := by omega
          have s5 : (0 : Int) ≤ (L : Int) := by omega
          have s6 : decide (0 < k) = true := by simp; omega
          have HLK := Lib.hid hL
          have HDR2 := Lib.hid (show ∀ y ∈ ou.drop L, x.1 < y.1 from fun y hy => by
            rw [List.drop_eq_getElem_cons hLl] at hy
            rcases List.mem_cons.mp hy with rfl | hy
            · exact hgt2
            · rw [hL] at hy; exact HDR.out y hy)
          have hd : decide (x.1 < ou[L].1) = true := by simp; exact hgt2
          clear hgt hkl hcell hkp
          generalize ou[L].1 = ya at *
          clear hL hLl
          go_upto_region 6 with fail
          go_quiet (fail)
          have HBQ := Lib.hid (below_more HBE.out (below_drewN (Below.refl wr.heap.size wr) nq))
          generalize wr.drewN nq = wc at *
          go_wp2
          go_roundw
          case rel => exact ⟨L, rfl, by have := HLK.out; omega, HBQ.out, HDR2⟩
          case measure => have := HLK.out; simp [intOf]; omega
        · have hst : k = 0 ∨ ∃ y, ou[k - 1]? = some y ∧ y.1 ≤ x.1 := by
            rcases Nat.eq_zero_or_pos k with h0 | h0
            · exact .inl h0
            · refine .inr ⟨ou[k - 1]'(by have := HHOL.out; omega), List.getElem?_eq_getElem _, ?_⟩
              exact Int.not_lt.mp fun h1 => hgo ⟨h0, by have := HHOL.out; omega, h1⟩
          have HASC := Lib.hid (insK_asc HAS.out HDR.out hst (by have := HHOL.out; omega))
          clear hgo
          rcases Nat.eq_zero_or_pos k with rfl | hkp
          · clear hst
            go_upto_region 6 with fail
            go_quiet (fail)
            have HBQ := Lib.hid (below_more HBE.out (below_drewN (Below.refl wr.heap.size wr) nq))
            clear c0
            generalize wr.drewN nq = wc at *
            have HOC := Lib.hid (HOW.out.below HBQ.out)
            have HOD := Lib.hid (HOC.out.below (below_new wc (.cells #[.int .i64 0, .int .i64 0] 51)))
            have HC0' := Lib.hid ((HBQ.out.cell (p := ⟨b, o + q * 2, none⟩) hbwo).trans HC0.out)
            have HC1' := Lib.hid ((HBQ.out.cell (p := ⟨b, o + q * 2 + 1, none⟩) hbwo).trans HC1.out)
            go_wp2_with (at_builtin; refine wp_app2 Try.underlying29 rext_info (by rfl) (.tmp 33) (.tmp 35) (by rfl) w (.slice Af q Cf) ou (0, 0) wc.heap.size (by rfl) (by rfl) HOD.out (Bx.new wc _ _) (by have := HHOL.out; omega) ?_; intro V2 w3 how3; refine Hid.out ?_)
            obtain ⟨g2, cap, hV, hg1, hg2⟩ := how3.own.form (by simp)
            rw [List.length_append, HHOL.out] at hV
            subst hV
            have HO3 := Lib.hid how3
            have HB3 := Lib.hid how3.be
            have x0 := (how3.be.cell (p := ⟨b, o + q * 2, none⟩) hbw).trans ((HOW.out.be.cell (p := ⟨b, o + q * 2, none⟩) hbw).symm.trans HC0.out)
            have x1 := (how3.be.cell (p := ⟨b, o + q * 2 + 1, none⟩) hbw).trans ((HOW.out.be.cell (p := ⟨b, o + q * 2 + 1, none⟩) hbw).symm.trans HC1.out)
            have HX0 := Lib.hid x0
            have HX1 := Lib.hid x1
            have hbg : b ≠ g2 := by omega
            have s1 : wrap64 (((q : Int) + 1) - 1) = q := by unfold wrap64; omega
            clear how3 x0 x1 hg1 hg2
            simp only [List.length_singleton]
            refine go_on ?_
            go_wp2
            go_loopw [6] (fun j6 w4 => ∃ (j : Nat) (y : Xt), j6 = .int .i64 j ∧ 0 ≤ j ∧ j ≤ q ∧ Ow 51 w (.slice (some ⟨g2, 0, none⟩) (q + 1) cap) (insK ou y j) w4) (fun j6 _ => (intOf j6).toNat)
            case atStart =>
              refine ⟨q, (0, 0), by go_num, hk, Nat.le_refl _, ?_⟩
              rw [← HHOL.out, insK_end, HHOL.out]
              exact HO3.out
            case round =>
              obtain ⟨j, y, rfl, hj1, hj2, how4⟩ := hrel
              have HO4 := Lib.hid how4
              have hil := insK_len ou y j (by have := HHOL.out; omega)
              rw [HHOL.out] at hil
              have how5 := how4.own
              rw [hil] at how5
              obtain ⟨_, _, ev, -, hex4, hth4⟩ := own_ex how5
              cases ev
              have hfz := hth4 (by omega) g2 0 rfl
              clear how4 how5
              by_cases hjk : 0 < j
              · obtain ⟨L, hL⟩ : ∃ L, L + 1 = j := ⟨j - 1, by omega⟩
                subst hL
                obtain ⟨e0, e1⟩ := hex4.get rfl (i := L) (by omega)
                obtain ⟨f0, f1⟩ := hex4.get rfl (i := L + 1) (by omega)
                have hget := insK_get (ou := ou) (y := y) (j := L) (by have := HHOL.out; omega)
                rw [List.getElem?_eq_getElem (by omega)] at hget
                have hget2 := Option.some.inj hget
                rw [hget2] at e0 e1
                have hstp := insK_step (ou := ou) (y := y) (j := L) (by have := HHOL.out; omega)
                have z0 := hfz ((L + 1) * 2)
                have z1 := hfz ((L + 1) * 2 + 1)
                rw [Nat.zero_add] at e0 e1 f0 f1
                have s2 : wrap64 (((L : Int) + 1) - 1) = L := by unfold wrap64; omega
                have s3 : (L : Int) < (q : Int) + 1 := by omega
                have s4 : (L : Int) + 1 < (q : Int) + 1 := by omega
                have s5 : (0 : Int) ≤ (L : Int) := by omega
                have s6 : ((L : Int) + 1).toNat = L + 1 := by omega
                have s7 : (0 : Int) ≤ (L : Int) + 1 := by omega
                have HPUT := Lib.hid (HO4.out.put2 (by omega) (i := L + 1) (by omega) (ou[L]'(by have := HHOL.out; omega)))
                rw [hstp] at HPUT
                clear hget hget2 hstp hex4 hth4 hfz
                generalize ou[L]'(by have := HHOL.out; omega) = yl at *
                go_wp2
                go_roundw
                case rel => exact ⟨L, yl, by go_num, by omega, by omega, HPUT.out⟩
                case measure => (try simp [intOf]) <;> omega
              · obtain rfl : j = 0 := by omega
                obtain ⟨f0, f1⟩ := hex4.get rfl (i := 0) (by omega)
                rw [Nat.zero_add] at f0 f1
                have z0 := hfz (0 * 2)
                have z1 := hfz (0 * 2 + 1)
                have x0 := (HO4.out.be.cell (p := ⟨b, o + q * 2, none⟩) hbw).trans ((HOW.out.be.cell (p := ⟨b, o + q * 2, none⟩) hbw).symm.trans HC0.out)
                have x1 := (HO4.out.be.cell (p := ⟨b, o + q * 2 + 1, none⟩) hbw).trans ((HOW.out.be.cell (p := ⟨b, o + q * 2 + 1, none⟩) hbw).symm.trans HC1.out)
                have HPUT := Lib.hid (HO4.out.put2 (by omega) (i := 0) (by omega) x)
                rw [insK_put (by have := HHOL.out; omega)] at HPUT
                have HPERM := Lib.hid (show (insK ou x 0).Perm (xs.take (q + 1)) by rw [HTK.out]; exact (insK_perm ou x 0).trans (HPM.out.append_right _))
                have s3 : ((0 : Nat) : Int) < (q : Int) + 1 := by omega
                have s5 : (0 : Int) ≤ ((0 : Nat) : Int) := by omega
                clear hex4 hth4 hfz
                go_wp2
                go_roundw
                case rel => exact ⟨q + 1, insK ou x 0, by go_num, by omega, HPUT.out, HPERM, HASC⟩
                case measure => simp [intOf]; omega
          · obtain ⟨y, hy, hyx⟩ := hst.resolve_left (by omega)
            obtain ⟨g, rfl, hgw, hcell⟩ := HOF.out (by omega)
            obtain ⟨hkl, rfl⟩ := List.getElem?_eq_some_iff.mp hy
            obtain ⟨L, hL⟩ : ∃ L, L + 1 = k := ⟨k - 1, by omega⟩
            have hLl : L < ou.length := by omega
            have d0 := (HBE.out.cell (p := ⟨g, L * 2, none⟩) hgw).trans (hcell L hLl)
            have hgt2 : ou[L].1 ≤ x.1 := by have : k - 1 = L := by omega
                                            simpa only [this] using hyx
            have t1 : IntKind.i64.wrap ((k : Int) - 1) = L := by rw [show (k : Int) - 1 = L by omega]; exact IntWalk.i64_in _ (by omega)
            have t2 : wrap64 ((k : Int) - 1) = L := by unfold wrap64; omega
            have t3 : (0 : Int) < (k : Int) := by omega
            have t4 : (L : Int) < (q : Int) := by omega
            have t5 : (0 : Int) ≤ (L : Int) := by omega
            have t6 : decide (0 < k) = true := by simp; omega
            have t7 : decide (x.1 < ou[L].1) = false := by simp; exact hgt2
            clear hyx hkl hcell hkp hy hst hL
            generalize ou[L].1 = ya at *
            clear hLl
            go_upto_region 6 with fail
            go_quiet (fail)
            clear t1 t2 t3 t4 t5 t6 t7 d0 hgt2
            have HBQ := Lib.hid (below_more HBE.out (below_drewN (Below.refl wr.heap.size wr) nq))
            clear c0
            generalize wr.drewN nq = wc at *
            have HOC := Lib.hid (HOW.out.below HBQ.out)
            have HOD := Lib.hid (HOC.out.below (below_new wc (.cells #[.int .i64 0, .int .i64 0] 51)))
            have HC0' := Lib.hid ((HBQ.out.cell (p := ⟨b, o + q * 2, none⟩) hbwo).trans HC0.out)
            have HC1' := Lib.hid ((HBQ.out.cell (p := ⟨b, o + q * 2 + 1, none⟩) hbwo).trans HC1.out)
            go_wp2_with (at_builtin; refine wp_app2 Try.underlying29 rext_info (by rfl) (.tmp 33) (.tmp 35) (by rfl) w (.slice (some ⟨g, 0, none⟩) q Cf) ou (0, 0) wc.heap.size (by rfl) (by rfl) HOD.out (Bx.new wc _ _) (by have := HHOL.out; omega) ?_; intro V2 w3 how3; refine Hid.out ?_)
            obtain ⟨g2, cap, hV, hg1, hg2⟩ := how3.own.form (by simp)
            rw [List.length_append, HHOL.out] at hV
            subst hV
            have HO3 := Lib.hid how3
            have HB3 := Lib.hid how3.be
            have x0 := (how3.be.cell (p := ⟨b, o + q * 2, none⟩) hbw).trans ((HOW.out.be.cell (p := ⟨b, o + q * 2, none⟩) hbw).symm.trans HC0.out)
            have x1 := (how3.be.cell (p := ⟨b, o + q * 2 + 1, none⟩) hbw).trans ((HOW.out.be.cell (p := ⟨b, o + q * 2 + 1, none⟩) hbw).symm.trans HC1.out)
            have HX0 := Lib.hid x0
            have HX1 := Lib.hid x1
            have hbg : b ≠ g2 := by omega
            have s1 : wrap64 (((q : Int) + 1) - 1) = q := by unfold wrap64; omega
            clear how3 x0 x1 hg1 hg2
            simp only [List.length_singleton]
            refine go_on ?_
            go_wp2
            go_loopw [6] (fun j6 w4 => ∃ (j : Nat) (y : Xt), j6 = .int .i64 j ∧ k ≤ j ∧ j ≤ q ∧ Ow 51 w (.slice (some ⟨g2, 0, none⟩) (q + 1) cap) (insK ou y j) w4) (fun j6 _ => (intOf j6).toNat)
            case atStart =>
              refine ⟨q, (0, 0), by go_num, hk, Nat.le_refl _, ?_⟩
              rw [← HHOL.out, insK_end, HHOL.out]
              exact HO3.out
            case round =>
              obtain ⟨j, y, rfl, hj1, hj2, how4⟩ := hrel
              have HO4 := Lib.hid how4
              have hil := insK_len ou y j (by have := HHOL.out; omega)
              rw [HHOL.out] at hil
              have how5 := how4.own
              rw [hil] at how5
              obtain ⟨_, _, ev, -, hex4, hth4⟩ := own_ex how5
              cases ev
              have hfz := hth4 (by omega) g2 0 rfl
              clear how4 how5
              by_cases hjk : k < j
              · obtain ⟨L, hL⟩ : ∃ L, L + 1 = j := ⟨j - 1, by omega⟩
                subst hL
                obtain ⟨e0, e1⟩ := hex4.get rfl (i := L) (by omega)
                obtain ⟨f0, f1⟩ := hex4.get rfl (i := L + 1) (by omega)
                have hget := insK_get (ou := ou) (y := y) (j := L) (by have := HHOL.out; omega)
                rw [List.getElem?_eq_getElem (by omega)] at hget
                have hget2 := Option.some.inj hget
                rw [hget2] at e0 e1
                have hstp := insK_step (ou := ou) (y := y) (j := L) (by have := HHOL.out; omega)
                have z0 := hfz ((L + 1) * 2)
                have z1 := hfz ((L + 1) * 2 + 1)
                rw [Nat.zero_add] at e0 e1 f0 f1
                have s2 : wrap64 (((L : Int) + 1) - 1) = L := by unfold wrap64; omega
                have s3 : (L : Int) < (q : Int) + 1 := by omega
                have s4 : (L : Int) + 1 < (q : Int) + 1 := by omega
                have s5 : (0 : Int) ≤ (L : Int) := by omega
                have s6 : ((L : Int) + 1).toNat = L + 1 := by omega
                have s7 : (0 : Int) ≤ (L : Int) + 1 := by omega
                have HPUT := Lib.hid (HO4.out.put2 (by omega) (i := L + 1) (by omega) (ou[L]'(by have := HHOL.out; omega)))
                rw [hstp] at HPUT
                clear hget hget2 hstp hex4 hth4 hfz
                generalize ou[L]'(by have := HHOL.out; omega) = yl at *
                go_wp2
                go_roundw
                case rel => exact ⟨L, yl, by go_num, by omega, by omega, HPUT.out⟩
                case measure => (try simp [intOf]) <;> omega
              · obtain rfl : j = k := by omega
                obtain ⟨f0, f1⟩ := hex4.get rfl (i := j) (by omega)
                rw [Nat.zero_add] at f0 f1
                have z0 := hfz (j * 2)
                have z1 := hfz (j * 2 + 1)
                have x0 := (HO4.out.be.cell (p := ⟨b, o + q * 2, none⟩) hbw).trans ((HOW.out.be.cell (p := ⟨b, o + q * 2, none⟩) hbw).symm.trans HC0.out)
                have x1 := (HO4.out.be.cell (p := ⟨b, o + q * 2 + 1, none⟩) hbw).trans ((HOW.out.be.cell (p := ⟨b, o + q * 2 + 1, none⟩) hbw).symm.trans HC1.out)
                have HPUT := Lib.hid (HO4.out.put2 (by omega) (i := j) (by omega) x)
                rw [insK_put (by have := HHOL.out; omega)] at HPUT
                have HPERM := Lib.hid (show (insK ou x j).Perm (xs.take (q + 1)) by rw [HTK.out]; exact (insK_perm ou x j).trans (HPM.out.append_right _))
                have s3 : (j : Int) < (q : Int) + 1 := by omega
                have s5 : (0 : Int) ≤ (j : Int) := by omega
                clear hex4 hth4 hfz
                go_wp2
                go_roundw
                case rel => exact ⟨q + 1, insK ou x j, by go_num, by omega, HPUT.out, HPERM, HASC⟩
                case measure => simp [intOf]; omega
    · obtain rfl : q = n := by omega
      have HF := Lib.hid HPM.out
      rw [List.take_of_length_le (by omega)] at HF
      go_wp2
      go_ret
      exact ⟨_, ou, rfl, HF.out, HAS.out, HOW.out⟩
end Go.Proofs.Ytkdfafaiabidgaa.X5
