/- The reference's Rest. -/
import Derived.Test.YtkdfafaiabidgaaKx
namespace Go.Proofs.Ytkdfafaiabidgaa.X5
set_option linter.unusedVariables false
set_option linter.unusedSimpArgs false
open Go.RowKit Wd Ty9

set_option maxHeartbeats 4000000 in
set_option maxRecDepth 100000 in
theorem rrest_bad (A : Option Addr) (n C : Nat) (size : Int) (w : World) (hs : ¬ (0 ≤ size ∧ size ≤ 4194304)) :
    Calls Try.prog 28 #[.slice A n C, .int .i64 size] w fun e w' => e = .returned (.tuple #[.slice none 0 0, .int .i64 2]) ∧ Below w.heap.size w w' := by
  by_cases h1 : size < 0
  · clear hs
    go_enter Try.func28, Try.ntmps28
    go_wp2
    go_ret2
    exact ⟨rfl, Below.refl _ _⟩
  · have h2 : 4194304 < size := by omega
    clear hs
    go_enter Try.func28, Try.ntmps28
    go_wp2
    go_ret2
    exact ⟨rfl, Below.refl _ _⟩

set_option maxHeartbeats 4000000 in
set_option maxRecDepth 100000 in
theorem rrest_any (A : Option Addr) (n C lo hi : Nat) (xs : List Xt) (size : Int) (w : World) (hn : n ≤ 140737488355328) (h : Ex w lo hi A n xs) (hhi : hi ≤ w.heap.size) :
    Calls Try.prog 28 #[.slice A n C, .int .i64 size] w fun e w' => ∃ A' C' m z out, e = .returned (.tuple #[.slice A' m C', .int .i64 z]) ∧ IsRest xs size z out ∧ out.length = m ∧ w'.ownsRow w.heap.size 51 2 (.slice A' m C') m (cl out) ∧ Below w.heap.size w w' := by
  by_cases hs : 0 ≤ size ∧ size ≤ 4194304
  · have HSZ := Lib.hid hs
    obtain ⟨hs1, hs2⟩ := hs
    have hl := h.len
    have HN := Lib.hid (rnormal_any A n C lo hi xs w hn h hhi)
    clear h
    go_enter Try.func28, Try.ntmps28
    go_wp2_with (go_at_call 14; refine HN.out.mono ?_; rintro _ w2 ⟨A2, C2, m, z, j, rfl, hnm, hjl, hown, hb⟩; refine Hid.out ?_)
    have HNM := Lib.hid hnm
    have HB2 := Lib.hid hb
    by_cases hz : z = 0
    · subst hz
      obtain ⟨hlen, hmay, hjoin, hjlen⟩ : xs.length ≤ 65536 ∧ (∀ x ∈ xs, mayP x) ∧ IsJoin xs j ∧ j.length ≤ xs.length := by
        rcases hnm with ⟨_, h1, h2, h3, h4⟩ | ⟨h1, h2, _⟩
        · exact ⟨h1, h2, h3, h4⟩
        · split at h2 <;> omega
      have HJM := Lib.hid (joined_may hjoin hmay)
      obtain ⟨_, _, ev, -, hex, -⟩ := own_ex hown
      cases ev
      have HX2 := Lib.hid hex
      have hmb : m ≤ 65536 := by omega
      have HJL := Lib.hid hjl
      clear hown hb hnm hjoin hjlen hmay hlen hjl HN hex
      refine go_on ?_
      go_wp2
      go_loopw [8, 9, 10] (fun v a i wr => ∃ (k : Nat) (at_ : Int) (ou : List Xt), a = .int .i64 at_ ∧ i = .int .i64 k ∧ k ≤ m ∧ 0 ≤ at_ ∧ at_ ≤ 4194304 ∧ Hid (gapsL (j.take k) = (ou, at_)) ∧ Hid (∀ x ∈ j.take k, x.1 + x.2 ≤ size) ∧ Ow 51 w2 v ou wr) (fun _ _ i _ => m - (intOf i).toNat)
      case atStart => exact ⟨0, 0, [], rfl, rfl, Nat.zero_le _, by omega, by omega, Lib.hid rfl, Lib.hid (by simp), Ow.nil _ _⟩
      case round =>
        obtain ⟨k, at_, ou, rfl, rfl, hk, ha0, ha1, HGP, HLE, how⟩ := hrel
        obtain ⟨Af, Cf, hV⟩ := own_form how.own
        subst hV
        have hol : ou.length ≤ k := by have := gaps_len (j.take k); rw [HGP.out, List.length_take] at this; simp at this; omega
        have HOL := Lib.hid hol
        have HOW4 := Lib.hid how
        clear how hol
        by_cases hlt : k < m
        · have hltz : (k : Int) < (m : Int) := by omega
          obtain ⟨b, o, rfl, hb1, hb2, -⟩ := HX2.out.at_ (by omega)
          have hk2 : k < j.length := by have := HJL.out; omega
          obtain ⟨c0, c1⟩ := HX2.out.get rfl (i := k) hk2
          rw [← HOW4.out.be.cell (p := ⟨b, o + k * 2, none⟩) hb2] at c0
          rw [← HOW4.out.be.cell (p := ⟨b, o + k * 2 + 1, none⟩) hb2] at c1
          have hxm := (HJM.out _ (List.getElem_mem hk2)).1
          have hgs : gapsL (j.take (k + 1)) = gstep (ou, at_) j[k] := by
            rw [List.take_add_one, List.getElem?_eq_getElem hk2, Option.toList_some, gapsL_snoc, HGP.out]
          have htk : j.take (k + 1) = j.take k ++ [j[k]] := by rw [List.take_add_one, List.getElem?_eq_getElem hk2]; rfl
          have hmem : j[k] ∈ j := List.getElem_mem hk2
          generalize j[k] = x at c0 c1 hxm hgs htk hmem
          have HGS := Lib.hid hgs
          have HTK := Lib.hid htk
          have HMEM := Lib.hid hmem
          unfold mayP at hxm
          have s1 : wrap64 (x.1 + x.2) = x.1 + x.2 := by unfold wrap64; omega
          have s1' : IntKind.i64.wrap (x.1 + x.2) = x.1 + x.2 := IntWalk.i64_in _ (by omega)
          have s2 : wrap64 (x.1 - at_) = x.1 - at_ := by unfold wrap64; omega
          have HEB := Lib.hid (show 0 ≤ x.1 + x.2 ∧ x.1 + x.2 ≤ 4194304 by omega)
          have hbw : b < wr.heap.size := Nat.lt_of_lt_of_le hb2 HOW4.out.be.size
          clear hxm hgs hk2 htk hmem
          by_cases hover : size < x.1 + x.2
          · have hd : decide (size < x.1 + x.2) = true := by simp; exact hover
            have HRS := Lib.hid (show IsRest xs size 2 [] from .inr ⟨HSZ.out, 0, j, HNM.out, .inr (.inl ⟨rfl, ⟨x, HMEM.out, hover⟩, rfl, rfl⟩)⟩)
            go_upto_region 11 with fail
            go_quiet (fail)
            have HBQ := Lib.hid (below_more HB2.out (below_more HOW4.out.be (below_drewN (Below.refl wr.heap.size wr) nq)))
            generalize wr.drewN nq = wc at *
            go_wp2
            go_ret2
            exact ⟨none, 0, 0, 2, [], rfl, HRS.out, rfl, World.ownsRow_nil _ _ _ _, HBQ.out⟩
          · have hd : decide (size < x.1 + x.2) = false := by simp; omega
            have HLE2 := Lib.hid (show ∀ y ∈ j.take (k + 1), y.1 + y.2 ≤ size from fun y hy => by
              rw [HTK.out] at hy
              rcases List.mem_append.mp hy with hy | hy
              · exact HLE.out y hy
              · simp at hy; rw [hy]; omega)
            go_upto_region 11 with fail
            go_quiet (fail)
            have HOQ := Lib.hid (HOW4.out.below (below_drewN (Below.refl wr.heap.size wr) nq))
            have c0 := ((below_drewN (Below.refl wr.heap.size wr) nq).cell (p := ⟨b, o + k * 2, none⟩) hbw).trans c0
            have c1 := ((below_drewN (Below.refl wr.heap.size wr) nq).cell (p := ⟨b, o + k * 2 + 1, none⟩) hbw).trans c1
            have hbc : b < (wr.drewN nq).heap.size := by simpa using hbw
            have hne : ∀ q, (Value.slice Af ou.length Cf).ownBlock = some q → w2.heap.size ≤ q := fun q hq => (HOW4.out.own.lt q hq).1
            clear HOW4
            generalize wr.drewN nq = wc at *
            by_cases hgt : at_ < x.1
            · have HOE := Lib.hid (HOQ.out.below (below_new wc (.cells #[.int .i64 at_, .int .i64 (x.1 - at_)] 51)))
              have HNE := Lib.hid hne
              clear hne
              go_wp2_with (at_builtin; refine wp_app3 Try.underlying29 rext_info (by rfl) (.tmp 51) (.tmp 61) (by rfl) w2 _ ou (at_, x.1 - at_) wc.heap.size (by rfl) (by rfl) HOE.out (Bx.new wc _ _) (by have := HOL.out; omega) ?_; intro V5 w5 how5 hgr5; refine Hid.out ?_)
              obtain ⟨A5, C5, hV⟩ := own_form how5.own
              rw [List.length_append, List.length_singleton] at hV
              subst hV
              have d0 : w5.cell? ⟨b, o + k * 2, none⟩ = some (.int .i64 x.1) := (how5.be.cell (p := ⟨b, o + k * 2, none⟩) hb2).trans ((HOQ.out.be.cell (p := ⟨b, o + k * 2, none⟩) hb2).symm.trans c0)
              have d1 : w5.cell? ⟨b, o + k * 2 + 1, none⟩ = some (.int .i64 x.2) := (how5.be.cell (p := ⟨b, o + k * 2 + 1, none⟩) hb2).trans ((HOQ.out.be.cell (p := ⟨b, o + k * 2 + 1, none⟩) hb2).symm.trans c1)
              have HO5 := Lib.hid how5
              clear how5 hgr5 c0 c1
              refine go_on ?_
              go_upto_region 15 with fail
              go_quiet (fail)
              have HO6 := Lib.hid (HO5.out.below (below_drewN (Below.refl w5.heap.size w5) nq))
              go_wp2
              go_roundw
              case rel => exact ⟨k + 1, _, _, rfl, by go_num, by omega, HEB.out.1, HEB.out.2, Lib.hid (by rw [HGS.out, gstep, if_pos hgt]), HLE2, HO6.out⟩
              case measure => simp [intOf]; omega
            · go_upto_region 15 with fail
              go_quiet (fail)
              have HO6 := Lib.hid (HOQ.out.below (below_drewN (Below.refl wc.heap.size wc) nq))
              go_wp2
              go_roundw
              case rel => exact ⟨k + 1, _, _, rfl, by go_num, by omega, HEB.out.1, HEB.out.2, Lib.hid (by rw [HGS.out, gstep, if_neg (by simpa using hgt)]), HLE2, HO6.out⟩
              case measure => simp [intOf]; omega
        · obtain rfl : k = m := by omega
          have hgp := HGP.out
          have hle := HLE.out
          rw [List.take_of_length_le (by have := HJL.out; omega)] at hgp hle
          have hrl := restL_eq j size
          rw [hgp] at hrl
          have HLE3 := Lib.hid hle
          have HHRL := Lib.hid hrl
          have s2 : wrap64 (size - at_) = size - at_ := by unfold wrap64; omega
          clear hgp hle hrl
          by_cases hgt : at_ < size
          · have HRL := Lib.hid (show restL j size = ou ++ [(at_, size - at_)] by rw [HHRL.out, if_pos hgt])
            have HOE := Lib.hid (HOW4.out.below (below_new wr (.cells #[.int .i64 at_, .int .i64 (size - at_)] 51)))
            go_wp2_with (at_builtin; refine wp_app3 Try.underlying29 rext_info (by rfl) (.tmp 77) (.tmp 83) (by rfl) w2 _ ou (at_, size - at_) wr.heap.size (by rfl) (by rfl) HOE.out (Bx.new wr _ _) (by have := HOL.out; omega) ?_; intro V5 w5 how5 hgr5; refine Hid.out ?_)
            obtain ⟨A5, C5, hV⟩ := own_form how5.own
            have hoL : (ou ++ [((at_, size - at_) : Xt)]).length = ou.length + 1 := by simp
            rw [hoL] at hV
            subst hV
            have HO5 := Lib.hid how5
            generalize hou : ou ++ [((at_, size - at_) : Xt)] = ou2 at *
            have HBF := Lib.hid (below_then HB2.out HB2.out.size how5.be)
            have hown5 := how5.own
            rw [hoL] at hown5
            have HOF := Lib.hid (own_base hown5 HB2.out.size)
            have HOL2 := Lib.hid hoL
            clear how5 hgr5 hown5
            generalize ou.length + 1 = q2 at *
            by_cases hbig : 65536 < q2
            · have HRS := Lib.hid (show IsRest xs size 3 [] from .inr ⟨HSZ.out, 0, j, HNM.out, .inr (.inr ⟨rfl, HLE3.out, .inl ⟨by rw [HRL.out]; omega, rfl, rfl⟩⟩)⟩)
              have hb2 : (65536 : Int) < (q2 : Int) := by omega
              clear hbig hoL hou
              refine go_on ?_
              go_wp2
              go_ret2
              first | exact ⟨none, 0, 0, 3, [], rfl, HRS.out, rfl, World.ownsRow_nil _ _ _ _, HBF.out⟩ | exact ⟨none, 0, 0, 3, rfl, [], HRS.out, rfl, World.ownsRow_nil _ _ _ _, HBF.out⟩
            · have HRS := Lib.hid (show IsRest xs size 0 ou2 from .inr ⟨HSZ.out, 0, j, HNM.out, .inr (.inr ⟨rfl, HLE3.out, .inr ⟨by rw [HRL.out]; omega, rfl, HRL.out.symm⟩⟩)⟩)
              have hb2 : ¬ (65536 : Int) < (q2 : Int) := by omega
              clear hbig hoL hou
              refine go_on ?_
              go_wp2
              go_ret2
              first | exact ⟨A5, C5, q2, 0, ou2, rfl, HRS.out, HOL2.out, HOF.out, HBF.out⟩ | exact ⟨A5, C5, q2, 0, rfl, ou2, HRS.out, HOL2.out, HOF.out, HBF.out⟩
          · have HRL := Lib.hid (show restL j size = ou by rw [HHRL.out, if_neg (by simpa using hgt)])
            have HBF := Lib.hid (below_then HB2.out HB2.out.size HOW4.out.be)
            have HOF := Lib.hid (own_base HOW4.out.own HB2.out.size)
            by_cases hbig : 65536 < ou.length
            · have HRS := Lib.hid (show IsRest xs size 3 [] from .inr ⟨HSZ.out, 0, j, HNM.out, .inr (.inr ⟨rfl, HLE3.out, .inl ⟨by rw [HRL.out]; omega, rfl, rfl⟩⟩)⟩)
              have hb2 : (65536 : Int) < (ou.length : Int) := by omega
              clear hbig
              go_wp2
              go_ret2
              first | exact ⟨none, 0, 0, 3, [], rfl, HRS.out, rfl, World.ownsRow_nil _ _ _ _, HBF.out⟩ | exact ⟨none, 0, 0, 3, rfl, [], HRS.out, rfl, World.ownsRow_nil _ _ _ _, HBF.out⟩
            · have HRS := Lib.hid (show IsRest xs size 0 ou from .inr ⟨HSZ.out, 0, j, HNM.out, .inr (.inr ⟨rfl, HLE3.out, .inr ⟨by rw [HRL.out]; omega, rfl, HRL.out.symm⟩⟩)⟩)
              have hb2 : ¬ (65536 : Int) < (ou.length : Int) := by omega
              clear hbig
              go_wp2
              go_ret2
              first | exact ⟨Af, Cf, ou.length, 0, ou, rfl, HRS.out, rfl, HOF.out, HBF.out⟩ | exact ⟨Af, Cf, ou.length, 0, rfl, ou, HRS.out, rfl, HOF.out, HBF.out⟩
    · obtain ⟨rfl, hj⟩ : z = (if 65536 < xs.length then 3 else 2) ∧ j = [] := by
        rcases hnm with ⟨h1, _⟩ | ⟨_, h2, h3⟩
        · exact absurd h1 hz
        · exact ⟨h2, h3⟩
      generalize (if 65536 < xs.length then (3 : Int) else 2) = z at *
      have z1 : (z != 0) = true := by simp [bne]; exact hz
      have z2 : (z == 0) = false := beq_eq_false_iff_ne.2 hz
      have HZ := Lib.hid hz
      clear hz hown hb hnm
      refine go_on ?_
      go_wp2
      go_ret2
      exact ⟨none, 0, 0, z, [], rfl, .inr ⟨HSZ.out, z, j, HNM.out, .inl ⟨HZ.out, rfl, rfl⟩⟩, rfl, World.ownsRow_nil _ _ _ _, HB2.out⟩
  · exact (rrest_bad A n C size w hs).mono fun e w' ⟨h1, h2⟩ => ⟨none, 0, 0, 2, [], h1, .inl ⟨hs, rfl, rfl⟩, rfl, World.ownsRow_nil _ _ _ _, h2⟩
end Go.Proofs.Ytkdfafaiabidgaa.X5
