/- The reference's Take. -/
import Derived.Test.YtkdfafaiabidgaaKwo
import Derived.Test.YtkdfafaiabidgaaKae
import Derived.Test.YtkdfafaiabidgaaKw
namespace Go.Proofs.Ytkdfafaiabidgaa.X5
set_option linter.unusedVariables false
set_option linter.unusedSimpArgs false
open Go.RowKit Wd Ty9

theorem cl_split (xs : List Xt) (k : Nat) : cl xs = cl (xs.take k) ++ cl (xs.drop k) := by rw [← cl_app, List.take_append_drop]
theorem Ex.pre {w : World} {lo hi n k : Nat} {A : Option Addr} {xs : List Xt} (h : Ex w lo hi A n xs) (hk : k ≤ n) : Ex w lo hi A k (xs.take k) :=
  ⟨by rw [List.length_take, h.len]; omega, fun h0 => by
    obtain ⟨b, o, e, h1, h2, h3⟩ := h.at_ (by omega)
    refine ⟨b, o, e, h1, h2, fun j u hu => h3 j u ?_⟩
    rw [cl_split xs k, List.getElem?_append_left (List.getElem?_eq_some_iff.mp hu).1]
    exact hu⟩
theorem Ex.suf {w : World} {lo hi n k b o : Nat} {xs : List Xt} (h : Ex w lo hi (some ⟨b, o, none⟩) n xs) (hk : k ≤ n) : Ex w lo hi (some ⟨b, o + k * 2, none⟩) (n - k) (xs.drop k) :=
  ⟨by rw [List.length_drop, h.len], fun h0 => by
    obtain ⟨b', o', e, h1, h2, h3⟩ := h.at_ (by omega)
    cases e
    refine ⟨_, _, rfl, h1, h2, fun j u hu => ?_⟩
    have h4 := h3 (k * 2 + j) u (by
      rw [cl_split xs k, List.getElem?_append_right (by rw [cl_len, List.length_take, h.len]; omega), cl_len, List.length_take, h.len, show k * 2 + j - min k n * 2 = j by omega]
      exact hu)
    rwa [← Nat.add_assoc] at h4⟩

theorem Ex.suf2 {w : World} {lo hi n k b o C : Nat} {xs : List Xt} (h : Ex w lo hi (some ⟨b, o, none⟩) n xs) (hk : k ≤ n) (hC : n ≤ C) : Ex w lo hi (if C = k then some ⟨b, o, none⟩ else some ⟨b, o + k * 2, none⟩) (n - k) (xs.drop k) := by
  split
  · have h0 : n - k = 0 := by omega
    exact ⟨by rw [List.length_drop, h.len], fun h1 => by omega⟩
  · exact h.suf hk

set_option maxHeartbeats 4000000 in
set_option maxRecDepth 100000 in
theorem rtake_any (A : Option Addr) (n C lo hi : Nat) (xs : List Xt) (z : Int) (w : World) (hn : n ≤ 140737488355328) (hC : n ≤ C) (h : Ex w lo hi A n xs) (hhi : hi ≤ w.heap.size) :
    Calls Try.prog 20 #[.slice A n C, .int .i64 z] w fun e w' => ∃ A' C' m R z' out, e = .returned (.tuple #[.int .i64 R, .slice A' m C', .int .i64 z']) ∧ IsTake xs z R z' out ∧ out.length = m ∧ w'.ownsRow w.heap.size 51 2 (.slice A' m C') m (cl out) ∧ Below w.heap.size w w' := by
  have hl := h.len
  have HX := Lib.hid h
  have HG := Lib.hid (rgood_any A n C lo hi xs 4194304 w hn h hhi)
  clear h
  by_cases hz : z < 1
  · go_enter Try.func20, Try.ntmps20
    go_wp2
    go_ret3
    first | exact ⟨none, 0, 0, 0, 2, rfl, [], .inl ⟨.inl hz, rfl, rfl, rfl⟩, rfl, World.ownsRow_nil _ _ _ _, Below.refl _ _⟩ | exact ⟨none, 0, 0, 0, 2, [], rfl, .inl ⟨.inl hz, rfl, rfl, rfl⟩, rfl, World.ownsRow_nil _ _ _ _, Below.refl _ _⟩
  by_cases hg : goodP xs 4194304
  · have HGD := Lib.hid hg
    have hmay := ((goodP_iff xs 4194304).mp hg).2.2.2.2
    have hnb : n ≤ 65536 := by rw [← hl]; exact ((goodP_iff xs 4194304).mp hg).2.2.1
    have HMAY := Lib.hid hmay
    clear hg hmay
    go_enter Try.func20, Try.ntmps20
    go_wp2_with (go_at_call 22; refine HG.out.mono ?_; rintro _ w1 ⟨he, hb⟩; rw [decide_eq_true HGD.out] at he; subst he; refine Hid.out ?_)
    have HB1 := Lib.hid hb
    clear hb HG
    refine go_on ?_
    go_wp2
    go_loopw [7] (fun i wr => ∃ k : Nat, i = .int .i64 k ∧ k ≤ n ∧ Below w.heap.size w wr ∧ Hid (∀ x ∈ xs.take k, x.2 < z)) (fun i _ => n - (intOf i).toNat)
    case atStart => exact ⟨0, rfl, Nat.zero_le _, HB1.out, Lib.hid (by simp)⟩
    case round =>
      obtain ⟨k, rfl, hk, hbe, HNO⟩ := hrel
      have HBE := Lib.hid hbe
      clear hbe
      by_cases hlt : k < n
      · have hltz : (k : Int) < (n : Int) := by omega
        obtain ⟨b, o, rfl, hb1, hb2, -⟩ := HX.out.at_ (by omega)
        obtain ⟨c0, c1⟩ := HX.out.get rfl (i := k) (by omega)
        have hbw0 : b < w.heap.size := Nat.lt_of_lt_of_le hb2 hhi
        have C0 := Lib.hid c0
        have C1 := Lib.hid c1
        rw [← HBE.out.cell (p := ⟨b, o + k * 2, none⟩) hbw0] at c0
        rw [← HBE.out.cell (p := ⟨b, o + k * 2 + 1, none⟩) hbw0] at c1
        have hmx := HMAY.out _ (List.getElem_mem (n := k) (show k < xs.length by omega))
        have HKX := Lib.hid (show xs[k]? = some xs[k] from List.getElem?_eq_getElem _)
        generalize xs[k] = x at c0 c1 C0 C1 hmx HKX
        by_cases hxz : x.2 < z
        · have HNO2 := Lib.hid (show ∀ y ∈ xs.take (k + 1), y.2 < z from fun y hy => by
            rw [List.take_add_one, HKX.out] at hy
            rcases List.mem_append.mp hy with hy | hy
            · exact HNO.out y hy
            · simp at hy; rw [hy]; exact hxz)
          clear hmx
          go_wp2
          go_roundw
          case rel => exact ⟨k + 1, by go_num, by omega, HBE.out, HNO2⟩
          case measure => simp [intOf]; omega
        · have HTK := Lib.hid (fun (out : List Xt) (hout : out = takeK xs z k) => show IsTake xs z x.1 0 out from .inr ⟨⟨by omega, HGD.out⟩, .inr ⟨k, by omega, by rw [(List.getElem?_eq_some_iff.mp HKX.out).2]; omega, HNO.out, by rw [(List.getElem?_eq_some_iff.mp HKX.out).2], rfl, hout⟩⟩)
          have HKD := Lib.hid (show xs.getD k (0, 0) = x by rw [List.getD_eq_getElem?_getD, HKX.out]; rfl)
          unfold mayP at hmx
          have hz1 : 1 ≤ z := by omega
          have hkC : (k : Int) ≤ (C : Int) := by omega
          have HO0 := Lib.hid (show Ow 51 wr (.slice (some ⟨wr.heap.size, 0, none⟩) 0 0) [] (wr.alloc (.cells #[] 51)) from ⟨World.ownsRow_made wr #[] 0 (Nat.le_refl _) (Nat.zero_le _) (by simp), below_new wr _⟩)
          have HXT := Lib.hid (((HX.out.later HBE.out hhi).later (below_new wr (.cells #[] 51)) (Nat.le_trans hhi HBE.out.size)).pre (k := k) (by omega))
          have HXS := Lib.hid HX.out
          go_wp2_with (at_builtin; refine wp_appN Try.underlying29 rext_info (by rfl) (.tmp 29) (.tmp 32) (by rfl) wr _ [] (xs.take k) (some ⟨b, o, none⟩) k C lo hi (by rfl) (by rfl) (by intro h; cases h) HO0.out HXT.out (by simp; omega) ?_; intro V2 w2 how2; refine Hid.out ?_)
          obtain ⟨A2, C2, hV⟩ := own_form how2.own
          rw [List.nil_append] at hV how2
          have hlk : (xs.take k).length = k := by rw [List.length_take]; omega
          rw [hlk] at hV
          subst hV
          have HO2 := Lib.hid how2
          have HBW := Lib.hid (below_more HBE.out how2.be)
          clear how2 HXT HO0 c0 c1
          have c0 := (HBW.out.cell (p := ⟨b, o + k * 2, none⟩) hbw0).trans C0.out
          have c1 := (HBW.out.cell (p := ⟨b, o + k * 2 + 1, none⟩) hbw0).trans C1.out
          refine go_on ?_
          obtain ⟨q, HQL⟩ : ∃ q, Hid ((takeK xs z k).length = q) := ⟨_, Lib.hid rfl⟩
          by_cases hgt : z < x.2
          · skip
            have hd : decide (z < x.2) = true := by simp; exact hgt
            have HTL := Lib.hid (show ((xs.take k).length + 1) * 16 ≤ 140737488355328 by rw [hlk]; omega)
            have HOE := Lib.hid (HO2.out.below (((Below.refl _ w2).drew).alloc (Nat.le_refl _) (.cells #[.int .i64 (x.1 + z), .int .i64 (x.2 - z)] 51)))
            have HBX9 := Lib.hid (Bx.new w2.drew 51 #[.int .i64 (x.1 + z), .int .i64 (x.2 - z)])
            have v1 : IntKind.i64.wrap (x.1 + z) = x.1 + z := IntWalk.i64_in _ (by omega)
            have v2 : wrap64 (x.1 + z) = x.1 + z := by unfold wrap64; omega
            have v3 : IntKind.i64.wrap (x.2 - z) = x.2 - z := IntWalk.i64_in _ (by omega)
            have v4 : wrap64 (x.2 - z) = x.2 - z := by unfold wrap64; omega
            go_upto_region 9 with fail
            go_region_law (refine step_app1 Try.underlying29 rext_info (by rfl) (.tmp 41) (.tmp 57) (by rfl) wr (.slice A2 k C2) (xs.take k) (x.1 + z, x.2 - z) w2.heap.size (by simp [Act.eval, Act.put]) (by simp [Act.eval, Act.put]) HOE.out HBX9.out HTL.out ?_; intro V3 w3 how3; obtain ⟨A3, C3, hV⟩ := own_form how3.own; rw [List.length_append, hlk, List.length_singleton] at hV; subst hV; have HO3 := Lib.hid how3; clear how3)
            all_goals
              have HB3 := Lib.hid (below_more HBE.out HO3.out.be)
              clear c0 c1 v1 v2 v3 v4
              have c0 := (HB3.out.cell (p := ⟨b, o + k * 2, none⟩) hbw0).trans C0.out
              have c1 := (HB3.out.cell (p := ⟨b, o + k * 2 + 1, none⟩) hbw0).trans C1.out
              have HTE := Lib.hid (show (xs.take k ++ [((x.1 + z, x.2 - z) : Xt)]) ++ xs.drop (k + 1) = takeK xs z k by unfold takeK; rw [HKD.out]; simp [hgt])
              have HLM := Lib.hid (show ((xs.take k ++ [((x.1 + z, x.2 - z) : Xt)]).length + (n - (k + 1))) * 16 ≤ 140737488355328 by simp; omega)
              have HOD := Lib.hid (HO3.out.below ((Below.refl _ w3).drew))
              have HXD := Lib.hid (((HXS.out.later HB3.out hhi).later ((Below.refl _ w3).drew) (Nat.le_trans hhi (HB3.out).size)).suf2 (k := k + 1) (C := C) (by omega) hC)
              have HBV := Lib.hid (HB3.out)
              obtain ⟨AD, hAD, HADN⟩ : ∃ AD, (if C = k + 1 then some (⟨b, o, none⟩ : Addr) else some ⟨b, o + (k + 1) * 2, none⟩) = AD ∧ Hid (AD = none → C - (k + 1) = 0) := ⟨_, rfl, Lib.hid (by split <;> intro h <;> cases h)⟩
              rw [hAD] at HXD
              have u3 : (k : Int) + 1 ≤ (n : Int) := by omega
              have u4 : (0 : Int) ≤ (k : Int) + 1 := by omega
              have U2 := Lib.hid (show wrap64 ((k : Int) + 1) = (k : Int) + 1 by unfold wrap64; omega)
              have u1 : IntKind.i64.wrap ((k : Int) + 1) = (k : Int) + 1 := IntWalk.i64_in _ (by omega)
              have u2 := U2.out
              go_upto_region 10 with fail
              go_region_law (refine step_appN_g Try.underlying29 rext_info w3.drew (by with_reducible rfl) (by rfl) (.tmp 64) (.tmp 68) (by rfl) wr (.slice A3 (k + 1) C3) (xs.take k ++ [((x.1 + z, x.2 - z) : Xt)]) (xs.drop (k + 1)) AD (n - (k + 1)) (C - (k + 1)) lo hi (by simp [Act.eval, Act.put]) (by simp [Act.eval, Act.put]) HADN.out HOD.out HXD.out HLM.out ?_; intro V5 w5 how5 hgr; rw [HTE.out] at how5; have x0 : w5.cell? ⟨b, o + k * 2, none⟩ = some (.int .i64 x.1) := ((below_more HBE.out how5.be).cell (p := ⟨b, o + k * 2, none⟩) hbw0).trans C0.out; obtain ⟨A5, C5, hV⟩ := own_form how5.own; rw [HQL.out] at hV; subst hV; have HO5 := Lib.hid how5; clear how5 hgr)
              all_goals
                clear c0 c1 x0 u1 u2
                go_wp2
                go_ret3
                have hown := own_base HO5.out.own HBE.out.size
                rw [HQL.out] at hown
                first | exact ⟨A5, C5, q, x.1, 0, rfl, takeK xs z k, HTK.out _ rfl, HQL.out, hown, below_more HBE.out HO5.out.be⟩ | exact ⟨A5, C5, q, x.1, 0, takeK xs z k, rfl, HTK.out _ rfl, HQL.out, hown, below_more HBE.out HO5.out.be⟩
          · have hd : decide (z < x.2) = false := by simp; omega
            have HTE := Lib.hid (show (xs.take k) ++ xs.drop (k + 1) = takeK xs z k by unfold takeK; rw [HKD.out]; simp [hgt])
            have HLM := Lib.hid (show ((xs.take k).length + (n - (k + 1))) * 16 ≤ 140737488355328 by simp; omega)
            have HOD := Lib.hid (HO2.out.below ((Below.refl _ w2).drew))
            have HXD := Lib.hid (((HXS.out.later HBW.out hhi).later ((Below.refl _ w2).drew) (Nat.le_trans hhi (HBW.out).size)).suf2 (k := k + 1) (C := C) (by omega) hC)
            have HBV := Lib.hid (HBW.out)
            obtain ⟨AD, hAD, HADN⟩ : ∃ AD, (if C = k + 1 then some (⟨b, o, none⟩ : Addr) else some ⟨b, o + (k + 1) * 2, none⟩) = AD ∧ Hid (AD = none → C - (k + 1) = 0) := ⟨_, rfl, Lib.hid (by split <;> intro h <;> cases h)⟩
            rw [hAD] at HXD
            have u3 : (k : Int) + 1 ≤ (n : Int) := by omega
            have u4 : (0 : Int) ≤ (k : Int) + 1 := by omega
            have U2 := Lib.hid (show wrap64 ((k : Int) + 1) = (k : Int) + 1 by unfold wrap64; omega)
            have u1 : IntKind.i64.wrap ((k : Int) + 1) = (k : Int) + 1 := IntWalk.i64_in _ (by omega)
            have u2 := U2.out
            go_upto_region 10 with fail
            go_region_law (refine step_appN_g Try.underlying29 rext_info w2.drew (by with_reducible rfl) (by rfl) (.tmp 64) (.tmp 68) (by rfl) wr (.slice A2 k C2) (xs.take k) (xs.drop (k + 1)) AD (n - (k + 1)) (C - (k + 1)) lo hi (by simp [Act.eval, Act.put]) (by simp [Act.eval, Act.put]) HADN.out HOD.out HXD.out HLM.out ?_; intro V5 w5 how5 hgr; rw [HTE.out] at how5; have x0 : w5.cell? ⟨b, o + k * 2, none⟩ = some (.int .i64 x.1) := ((below_more HBE.out how5.be).cell (p := ⟨b, o + k * 2, none⟩) hbw0).trans C0.out; obtain ⟨A5, C5, hV⟩ := own_form how5.own; rw [HQL.out] at hV; subst hV; have HO5 := Lib.hid how5; clear how5 hgr)
            all_goals
              clear c0 c1 x0 u1 u2
              go_wp2
              go_ret3
              have hown := own_base HO5.out.own HBE.out.size
              rw [HQL.out] at hown
              first | exact ⟨A5, C5, q, x.1, 0, rfl, takeK xs z k, HTK.out _ rfl, HQL.out, hown, below_more HBE.out HO5.out.be⟩ | exact ⟨A5, C5, q, x.1, 0, takeK xs z k, rfl, HTK.out _ rfl, HQL.out, hown, below_more HBE.out HO5.out.be⟩

      · obtain rfl : k = n := by omega
        have HNO2 := Lib.hid (show ∀ x ∈ xs, x.2 < z by have h1 := HNO.out; rwa [List.take_of_length_le (by omega)] at h1)
        go_wp2
        go_ret3
        first | exact ⟨none, 0, 0, 0, 7, rfl, [], .inr ⟨⟨by omega, HGD.out⟩, .inl ⟨HNO2.out, rfl, rfl, rfl⟩⟩, rfl, World.ownsRow_nil _ _ _ _, HBE.out⟩ | exact ⟨none, 0, 0, 0, 7, [], rfl, .inr ⟨⟨by omega, HGD.out⟩, .inl ⟨HNO2.out, rfl, rfl, rfl⟩⟩, rfl, World.ownsRow_nil _ _ _ _, HBE.out⟩
  · have HBAD := Lib.hid hg
    clear hg
    go_enter Try.func20, Try.ntmps20
    go_wp2_with (go_at_call 22; refine HG.out.mono ?_; rintro _ w1 ⟨he, hb⟩; rw [decide_eq_false HBAD.out] at he; subst he; have HB1 := Lib.hid hb; clear hb)
    go_ret3
    first | exact ⟨none, 0, 0, 0, 2, rfl, [], .inl ⟨.inr HBAD.out, rfl, rfl, rfl⟩, rfl, World.ownsRow_nil _ _ _ _, HB1.out⟩ | exact ⟨none, 0, 0, 0, 2, [], rfl, .inl ⟨.inr HBAD.out, rfl, rfl, rfl⟩, rfl, World.ownsRow_nil _ _ _ _, HB1.out⟩
end Go.Proofs.Ytkdfafaiabidgaa.X5
