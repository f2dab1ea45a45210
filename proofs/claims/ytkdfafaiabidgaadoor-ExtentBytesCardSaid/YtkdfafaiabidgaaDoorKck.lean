/- The reference's Load. -/
import Derived.Test.YtkdfafaiabidgaaDoorKcj
import Derived.Test.YtkdfafaiabidgaaDoorKcf
import Derived.Test.YtkdfafaiabidgaaDoorKch
import Derived.Test.YtkdfafaiabidgaaDoorJb
namespace Go.Proofs.YtkdfafaiabidgaaDoor.X5
set_option linter.unusedVariables false
set_option linter.unusedSimpArgs false
open Go.RowKit Wd Ty9

theorem un_zero {bs x : List Nat} (h : IsUn bs 0 x) : bs = sealL x := by
  rcases h with ⟨_, h, _⟩ | ⟨_, _, h, _⟩ | ⟨_, h1, _, h2⟩
  · cases h
  · cases h
  · rw [h2]; exact h1
theorem seal_inj {a b : List Nat} (h : sealL a = sealL b) : a = b := by
  have hl := congrArg List.length h
  rw [seal_len, seal_len] at hl
  unfold sealL at h
  exact (List.append_inj h (by omega)).1

set_option maxHeartbeats 1000000 in
set_option maxRecDepth 100000 in
theorem rload_any (A : Option Addr) (m c : Nat) (bs : List Nat) (w : World) (hm : m ≤ 400000) (hc : m ≤ c) (hb : Byt w w.heap.size A m bs) :
    Calls Tryd.prog 12 #[.slice A m c] w fun e w' => ∃ A' C' k z l, e = .returned (.tuple #[.slice A' k C', .int .i64 z]) ∧ IsLoad bs z l ∧ l.length = k ∧ w'.ownsRow w.heap.size 54 2 (.slice A' k C') k (cl l) ∧ Below w.heap.size w w' := by
  have HU := Lib.hid (runseal_any A m c bs w (by omega) hc hb)
  have HBB := Lib.hid hb
  have hl := hb.len
  clear hb
  go_enter Tryd.func12, Tryd.ntmps12
  go_wp2_with (go_at_call 25; refine HU.out.mono ?_; rintro _ w1 ⟨V, z, x, rfl, hun, hrow, hb⟩; refine Hid.out ?_)
  have HUN := Lib.hid hun
  have HB1 := Lib.hid hb
  by_cases hz : z = 0
  · subst hz
    have hxl : x.length ≤ m := by
      rcases hun with ⟨_, h, _⟩ | ⟨_, _, h, _⟩ | ⟨_, _, _, h⟩
      · cases h
      · cases h
      · rw [h, List.length_take]; omega
    have HLT := Lib.hid hrow.lt
    obtain ⟨A1, c1, hV, hc1, hby⟩ := row_cap hrow
    subst hV
    obtain ⟨q, hq⟩ : ∃ q, x.length = q := ⟨_, rfl⟩
    rw [hq] at hby hc1 hxl
    have HBY := Lib.hid hby
    have HQ := Lib.hid hq
    clear hun hrow hb HU hby
    rw [hq]
    clear hq
    obtain ⟨M, hM1, hM2⟩ : ∃ M, q < 8 * M + 12 ∧ (M = 0 ∨ 8 * M + 4 ≤ q) := ⟨(q - 4) / 8, by omega, by omega⟩
    refine go_on ?_
    go_wp2
    go_loopw [6, 7] (fun v i wr => ∃ (k : Nat), i = .int .i64 ((4 + 8 * k : Nat) : Int) ∧ k ≤ M ∧ Ow 54 w1 v (ents x k) wr) (fun _ i _ => q + 8 - (intOf i).toNat)
    case atStart => exact ⟨0, rfl, Nat.zero_le _, Ow.nil _ _⟩
    case round =>
      obtain ⟨k, rfl, hk, how⟩ := hrel
      obtain ⟨A4, C4, hV⟩ := own_form how.own
      rw [ents_len] at hV
      subst hV
      have HOW := Lib.hid how
      clear how
      obtain ⟨p1, hp1⟩ : ∃ p1 : Nat, 4 + 8 * k = p1 := ⟨_, rfl⟩
      have r0 : IntKind.i64.wrap ((p1 : Int) + 8) = (p1 : Int) + 8 := IntWalk.i64_in _ (by omega)
      have r0' : wrap64 ((p1 : Int) + 8) = (p1 : Int) + 8 := by unfold wrap64; omega
      by_cases hlt : k < M
      · have hge : (p1 : Int) + 8 ≤ (q : Int) := by omega
        have hgeN : p1 + 8 ≤ q := by omega
        have HE := Lib.hid (ents_succ x k)
        have HP1 := Lib.hid (fun (W : World) (hb : Below w1.heap.size w1 W) => show Calls Tryd.prog 26 #[.slice A1 q c1, .int .i64 ((4 + 8 * k : Nat) : Int), .int .i64 4, .bool true] W fun e w' => e = .returned (.tuple #[.int .u64 (V4 x (4 + 8 * k)), .int .i64 0]) ∧ Below W.heap.size W w' from
          rget_ok true 4 (4 + 8 * k) q c1 A1 x W (by omega) (by omega) (by omega) (by omega) ((HBY.out.later hb).up hb.size))
        have HP2 := Lib.hid (fun (W : World) (hb : Below w1.heap.size w1 W) => show Calls Tryd.prog 26 #[.slice A1 q c1, .int .i64 ((8 + 8 * k : Nat) : Int), .int .i64 4, .bool true] W fun e w' => e = .returned (.tuple #[.int .u64 (V4 x (8 + 8 * k)), .int .i64 0]) ∧ Below W.heap.size W w' from
          rget_ok true 4 (8 + 8 * k) q c1 A1 x W (by omega) (by omega) (by omega) (by omega) ((HBY.out.later hb).up hb.size))
        have a1 := V4_lt HLT.out (4 + 8 * k)
        have a2 := V4_lt HLT.out (8 + 8 * k)
        have HOL := Lib.hid (show ((ents x k).length + 1) * 16 ≤ 140737488355328 by rw [ents_len]; omega)
        generalize V4 x (4 + 8 * k) = va at *
        generalize V4 x (8 + 8 * k) = vb at *
        obtain ⟨p2, hp2⟩ : ∃ p2 : Nat, 8 + 8 * k = p2 := ⟨_, rfl⟩
        rw [hp1] at HP1
        rw [hp2] at HP2
        have r2 : IntKind.i64.wrap ((p1 : Int) + 4) = (p2 : Int) := by rw [show (p1 : Int) + 4 = (p2 : Int) by omega]; exact IntWalk.i64_in _ (by omega)
        have r2' : wrap64 ((p1 : Int) + 4) = (p2 : Int) := by unfold wrap64; omega
        have r3 : IntKind.i64.wrap (va : Int) = (va : Int) := IntWalk.i64_in _ (by omega)
        have r4 : IntKind.i64.wrap (vb : Int) = (vb : Int) := IntWalk.i64_in _ (by omega)
        have HPE := Lib.hid hp1
        rw [hp1]
        clear hp1 hp2
        have HG1 := Lib.hid (HP1.out wr HOW.out.be)
        go_wp2_with (go_at_call 26; refine HG1.out.mono ?_; rintro _ w5 ⟨rfl, hb⟩; refine Hid.out ?_)
        have HO5 := Lib.hid (HOW.out.below hb)
        have HG2 := Lib.hid (HP2.out w5 (HOW.out.below hb).be)
        clear hb HG1
        refine go_on ?_
        go_wp2_with (go_at_call 26; refine HG2.out.mono ?_; rintro _ w6 ⟨rfl, hb⟩; refine Hid.out ?_)
        have HO6 := Lib.hid ((HO5.out.below hb).below (below_new w6 (.cells #[.int .i64 (va : Int), .int .i64 (vb : Int)] 54)))
        clear hb HG2
        refine go_on ?_
        go_wp2_with (at_builtin; refine wp_app2 Tryd.underlying32 rext_info (by rfl) (.tmp 42) (.tmp 48) (by rfl) w1 _ (ents x k) ((va : Int), (vb : Int)) w6.heap.size (by rfl) (by rfl) HO6.out (Bx.new w6 _ _) HOL.out ?_; intro V7 w7 how7; refine Hid.out ?_)
        rw [← HE.out] at how7
        have HO7 := Lib.hid how7
        clear how7
        refine go_on ?_
        go_wp2
        go_roundw
        case rel => exact ⟨k + 1, by rw [← HPE.out]; go_num, by omega, HO7.out⟩
        case measure => simp [intOf]; omega
      · obtain rfl : k = M := by omega
        have hge : ¬ (p1 : Int) + 8 ≤ (q : Int) := by omega
        have hown := HOW.out.own
        rw [ents_len] at hown
        obtain ⟨_, _, ev, -, hex, -⟩ := own_ex hown
        cases ev
        have HB6 := Lib.hid (below_more HB1.out HOW.out.be)
        have HBT := Lib.hid (rbytes_any A4 k C4 w1.heap.size wr.heap.size (ents x k) wr (by omega) hex (Nat.le_refl _))
        have HOE := Lib.hid (fun (l' : List Xt) (h : LoadOk x l') => show ents x k = l' by
          obtain ⟨o1, o2, o3, o4⟩ := ok_ents h
          have e : l'.length = k := by have := HQ.out; omega
          rw [e] at o4; exact o4)
        rw [hp1]
        clear hown hex hp1
        go_wp2_with (go_at_call 9; refine HBT.out.mono ?_; rintro _ w8 ⟨V8, z8, o8, rfl, hby8, hrow8, hb⟩; refine Hid.out ?_)
        have HB8 := Lib.hid (below_more HB6.out hb)
        have ho8 := (HOW.out.below hb).own
        rw [ents_len] at ho8
        have HO8 := Lib.hid (own_base ho8 HB1.out.size)
        have HY8 := Lib.hid hby8
        obtain ⟨A8, c8, hV8, hbt8⟩ := hrow8.byt
        have hcv1 := conv_bytes hbt8 c8
        have hcv2 := conv_bytes (HBB.out.later HB8.out) c
        have HCV := Lib.hid (strOf_eq hrow8.lt HBB.out.lt)
        subst hV8
        by_cases hg : goodP (ents x k) 4194304
        · obtain ⟨rfl, hoe⟩ : z8 = 0 ∧ o8 = sealL (bytesL (ents x k)) := by
            rcases hby8 with ⟨h, _, _⟩ | ⟨_, h1, h2⟩
            · exact absurd hg h
            · exact ⟨h1, h2⟩
          by_cases hq : o8 = bs
          · have HOK := Lib.hid (show LoadOk x (ents x k) from ⟨hg, (seal_inj (by rw [← hoe, hq]; exact un_zero HUN.out)).symm⟩)
            have hq2 : ((strOf o8).toList == (strOf bs).toList) = true := by rw [HCV.out]; exact decide_eq_true hq
            clear hq hoe hg hby8 hrow8 hbt8 hb ho8 HBT
            refine go_on ?_
            go_wp2
            go_ret2
            first | exact ⟨A4, C4, k, 0, ents x k, rfl, .inr ⟨x, HUN.out, .inr ⟨HOK.out, rfl⟩⟩, ents_len _ _, HO8.out, HB8.out⟩ | exact ⟨A4, C4, k, 0, rfl, ents x k, .inr ⟨x, HUN.out, .inr ⟨HOK.out, rfl⟩⟩, ents_len _ _, HO8.out, HB8.out⟩
          · have HNO := Lib.hid (show ∀ l', ¬ LoadOk x l' from fun l' h => by
              have e := HOE.out l' h
              refine hq ?_
              rw [hoe, e, ← h.2]
              exact (un_zero HUN.out).symm)
            have hq2 : ((strOf o8).toList == (strOf bs).toList) = false := by rw [HCV.out]; exact decide_eq_false hq
            clear hq hoe hg hby8 hrow8 hbt8 hb ho8 HBT
            refine go_on ?_
            go_wp2
            go_ret2
            first | exact ⟨none, 0, 0, 5, [], rfl, .inr ⟨x, HUN.out, .inl ⟨HNO.out, rfl, rfl⟩⟩, rfl, World.ownsRow_nil _ _ _ _, HB8.out⟩ | exact ⟨none, 0, 0, 5, rfl, [], .inr ⟨x, HUN.out, .inl ⟨HNO.out, rfl, rfl⟩⟩, rfl, World.ownsRow_nil _ _ _ _, HB8.out⟩
        · obtain ⟨rfl, hoe⟩ : z8 = 2 ∧ o8 = [] := by
            rcases hby8 with ⟨_, h1, h2⟩ | ⟨h, _, _⟩
            · exact ⟨h1, h2⟩
            · exact absurd h hg
          have HNO := Lib.hid (show ∀ l', ¬ LoadOk x l' from fun l' h => hg (by rw [HOE.out l' h]; exact h.1))
          clear hoe hg hby8 hrow8 hbt8 hb ho8 HBT
          refine go_on ?_
          go_wp2
          go_ret2
          first | exact ⟨none, 0, 0, 5, [], rfl, .inr ⟨x, HUN.out, .inl ⟨HNO.out, rfl, rfl⟩⟩, rfl, World.ownsRow_nil _ _ _ _, HB8.out⟩ | exact ⟨none, 0, 0, 5, rfl, [], .inr ⟨x, HUN.out, .inl ⟨HNO.out, rfl, rfl⟩⟩, rfl, World.ownsRow_nil _ _ _ _, HB8.out⟩
  · have HX : x = [] := by
      rcases hun with ⟨_, _, h⟩ | ⟨_, _, _, h⟩ | ⟨_, _, h, _⟩
      · exact h
      · exact h
      · exact absurd h hz
    subst HX
    have z1 : (z != 0) = true := by simp [bne]; exact hz
    have z2 : (z == 0) = false := beq_eq_false_iff_ne.2 hz
    have HZ := Lib.hid hz
    clear hz hun hrow hb
    refine go_on ?_
    go_wp2
    go_ret2
    first | exact ⟨none, 0, 0, z, [], rfl, .inl ⟨HUN.out, HZ.out, rfl⟩, rfl, World.ownsRow_nil _ _ _ _, HB1.out⟩ | exact ⟨none, 0, 0, z, rfl, [], .inl ⟨HUN.out, HZ.out, rfl⟩, rfl, World.ownsRow_nil _ _ _ _, HB1.out⟩
end Go.Proofs.YtkdfafaiabidgaaDoor.X5
