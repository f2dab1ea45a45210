/- extent.Load. -/
import Derived.Test.YtkdfafaiabidgaaDoorKci
namespace Go.Proofs.YtkdfafaiabidgaaDoor.X5
set_option linter.unusedVariables false
set_option linter.unusedSimpArgs false
open Go.RowKit Wd Ty9

theorem row_cap {w : World} {base : Nat} {V : Value} {bs : List Nat} (h : RowB w base V bs) : ∃ A c, V = .slice A bs.length c ∧ bs.length ≤ c ∧ Byt w w.heap.size A bs.length bs := by
  obtain ⟨A, c, rfl, hby⟩ := h.byt
  refine ⟨A, c, rfl, ?_, hby⟩
  rcases h.own.2 with ⟨hv, h0⟩ | ⟨g, cap, cur, hv, _, _, hc, _⟩
  · injection hv with e1 e2 e3; omega
  · injection hv with e1 e2 e3; omega

set_option maxHeartbeats 1000000 in
set_option maxRecDepth 100000 in
theorem load_any (A : Option Addr) (m c : Nat) (bs : List Nat) (w : World) (hm : m ≤ 140737488000000) (hc : m ≤ c) (hb : Byt w w.heap.size A m bs) (hG : Gs w) :
    Calls Tryd.prog 11 #[.slice A m c] w fun e w' => ∃ A' C' k z l, e = .returned (.tuple #[.slice A' k C', .int .i64 z]) ∧ IsLoad bs z l ∧ l.length = k ∧ w'.ownsRow w.heap.size 45 2 (.slice A' k C') k (cl l) ∧ Below w.heap.size w w' := by
  have HU := Lib.hid (unseal_any A m c bs w hm hc hb hG)
  have hl := hb.len
  clear hb hG
  go_enter Tryd.func11, Tryd.ntmps11
  go_wp2_with (go_at_call 23; refine HU.out.mono ?_; rintro _ w1 ⟨V, z, x, rfl, hun, hrow, hb⟩; refine Hid.out ?_)
  have HUN := Lib.hid hun
  have HB1 := Lib.hid hb
  by_cases hz : z = 0
  · subst hz
    have hxl : x.length ≤ m := by
      rcases hun with ⟨_, h, _⟩ | ⟨_, _, h, _⟩ | ⟨_, _, _, h⟩
      · cases h
      · cases h
      · rw [h, List.length_take]; omega
    have HLT := Lib.hid hrow.lt
    obtain ⟨A1, c1, hV, hc1, hby⟩ := row_cap hrow
    subst hV
    obtain ⟨q, hq⟩ : ∃ q, x.length = q := ⟨_, rfl⟩
    rw [hq] at hby hc1 hxl
    have HBY := Lib.hid hby
    have HQ := Lib.hid hq
    clear hun hrow hb HU hby
    rw [hq]
    clear hq
    by_cases h4 : q < 4
    · have HNO := Lib.hid (show ∀ l', ¬ LoadOk x l' from fun l' h => by have := (ok_ents h).1; have := HQ.out; omega)
      have HGT := Lib.hid (oget_no true 4 0 q c1 A1 w1 (by omega) (by omega) (by omega) (by omega) (by omega))
      refine go_on ?_
      go_wp2_with (go_at_call 24; refine HGT.out.mono ?_; rintro _ w2 ⟨rfl, hb⟩; have HB2 := Lib.hid (below_more HB1.out hb); clear hb)
      go_ret2
      first | exact ⟨none, 0, 0, 5, [], rfl, .inr ⟨x, HUN.out, .inl ⟨HNO.out, rfl, rfl⟩⟩, rfl, World.ownsRow_nil _ _ _ _, HB2.out⟩ | exact ⟨none, 0, 0, 5, rfl, [], .inr ⟨x, HUN.out, .inl ⟨HNO.out, rfl, rfl⟩⟩, rfl, World.ownsRow_nil _ _ _ _, HB2.out⟩
    · have HGT := Lib.hid (show Calls Tryd.prog 24 #[.slice A1 q c1, .int .i64 0, .int .i64 4, .bool true] w1 fun e w' => e = .returned (.tuple #[.int .u64 (V4 x 0), .int .i64 0]) ∧ Below w1.heap.size w1 w' from
        oget_ok true 4 0 q c1 A1 x w1 (by omega) (by omega) (by omega) hc1 (by omega) HBY.out)
      have hv4 := V4_lt HLT.out 0
      have HEO := Lib.hid (fun (n : Nat) (h1 : x.length = 4 + 8 * n) (h2 : V4 x 0 = n) => ents_ok HLT.out h1 h2)
      have HOE := Lib.hid (fun (l' : List Xt) (h : LoadOk x l') => ok_ents h)
      obtain ⟨N, hN⟩ : ∃ N, V4 x 0 = N := ⟨_, rfl⟩
      rw [hN] at HGT hv4
      have HN := Lib.hid hN
      clear hN
      refine go_on ?_
      by_cases hbig : 65536 < N
      · have HNO := Lib.hid (show ∀ l', ¬ LoadOk x l' from fun l' h => by have h1 := HOE.out l' h; have h2 := HN.out; omega)
        have z1 : (65536 : Int) < (N : Int) := by omega
        go_wp2_with (go_at_call 24; refine HGT.out.mono ?_; rintro _ w2 ⟨rfl, hb⟩; have HB2 := Lib.hid (below_more HB1.out hb); clear hb)
        go_ret2
        first | exact ⟨none, 0, 0, 5, [], rfl, .inr ⟨x, HUN.out, .inl ⟨HNO.out, rfl, rfl⟩⟩, rfl, World.ownsRow_nil _ _ _ _, HB2.out⟩ | exact ⟨none, 0, 0, 5, rfl, [], .inr ⟨x, HUN.out, .inl ⟨HNO.out, rfl, rfl⟩⟩, rfl, World.ownsRow_nil _ _ _ _, HB2.out⟩
      · have z1 : ¬ (65536 : Int) < (N : Int) := by omega
        have q1 : IntKind.i64.wrap (N : Int) = (N : Int) := IntWalk.i64_in _ (by omega)
        have q2 : IntKind.i64.wrap (8 * (N : Int)) = 8 * (N : Int) := IntWalk.i64_in _ (by omega)
        have q3 : IntKind.i64.wrap (4 + 8 * (N : Int)) = 4 + 8 * (N : Int) := IntWalk.i64_in _ (by omega)
        by_cases hlen : q = 4 + 8 * N
        · have z2 : ((q : Int) == 4 + 8 * (N : Int)) = true := by simp; omega
          have z3 : ((q : Int) != 4 + 8 * (N : Int)) = false := by simp; omega
          have HLEN := Lib.hid hlen
          clear hlen
          go_wp2_with (go_at_call 24; refine HGT.out.mono ?_; rintro _ w2 ⟨rfl, hb⟩; refine Hid.out ?_)
          have HB2 := Lib.hid (below_more HB1.out hb)
          have HBY2 := Lib.hid ((HBY.out.later hb).up hb.size)
          clear hb HGT
          refine go_on ?_
          go_wp2
          clear z2 z3 q2 q3
          go_loopw [7, 43] (fun v i wr => ∃ (k : Nat), i = .int .i64 k ∧ k ≤ N ∧ Ow 45 w2 v (ents x k) wr) (fun _ i _ => N - (intOf i).toNat)
          case atStart => exact ⟨0, rfl, Nat.zero_le _, Ow.nil _ _⟩
          case round =>
            obtain ⟨k, rfl, hk, how⟩ := hrel
            obtain ⟨A4, C4, hV⟩ := own_form how.own
            rw [ents_len] at hV
            subst hV
            have HOW := Lib.hid how
            clear how
            by_cases hlt : k < N
            · have hltz : (k : Int) < (N : Int) := by omega
              have HE := Lib.hid (ents_succ x k)
              have HP1 := Lib.hid (fun (W : World) (hb : Below w2.heap.size w2 W) => show Calls Tryd.prog 24 #[.slice A1 q c1, .int .i64 ((4 + 8 * k : Nat) : Int), .int .i64 4, .bool true] W fun e w' => e = .returned (.tuple #[.int .u64 (V4 x (4 + 8 * k)), .int .i64 0]) ∧ Below W.heap.size W w' from
                oget_ok true 4 (4 + 8 * k) q c1 A1 x W (by omega) (by omega) (by omega) hc1 (by have := HLEN.out; omega) ((HBY2.out.later hb).up hb.size))
              have HP2 := Lib.hid (fun (W : World) (hb : Below w2.heap.size w2 W) => show Calls Tryd.prog 24 #[.slice A1 q c1, .int .i64 ((8 + 8 * k : Nat) : Int), .int .i64 4, .bool true] W fun e w' => e = .returned (.tuple #[.int .u64 (V4 x (8 + 8 * k)), .int .i64 0]) ∧ Below W.heap.size W w' from
                oget_ok true 4 (8 + 8 * k) q c1 A1 x W (by omega) (by omega) (by omega) hc1 (by have := HLEN.out; omega) ((HBY2.out.later hb).up hb.size))
              have a1 := V4_lt HLT.out (4 + 8 * k)
              have a2 := V4_lt HLT.out (8 + 8 * k)
              have HOL := Lib.hid (show ((ents x k).length + 1) * 16 ≤ 140737488355328 by rw [ents_len]; omega)
              generalize V4 x (4 + 8 * k) = va at *
              generalize V4 x (8 + 8 * k) = vb at *
              obtain ⟨p1, hp1⟩ : ∃ p1 : Nat, 4 + 8 * k = p1 := ⟨_, rfl⟩
              obtain ⟨p2, hp2⟩ : ∃ p2 : Nat, 8 + 8 * k = p2 := ⟨_, rfl⟩
              rw [hp1] at HP1
              rw [hp2] at HP2
              have r0 : IntKind.i64.wrap (8 * (k : Int)) = 8 * (k : Int) := IntWalk.i64_in _ (by omega)
              have r0' : wrap64 (8 * (k : Int)) = 8 * (k : Int) := by unfold wrap64; omega
              have r1 : IntKind.i64.wrap (4 + 8 * (k : Int)) = (p1 : Int) := by rw [show 4 + 8 * (k : Int) = (p1 : Int) by omega]; exact IntWalk.i64_in _ (by omega)
              have r1' : wrap64 (4 + 8 * (k : Int)) = (p1 : Int) := by unfold wrap64; omega
              have r2 : IntKind.i64.wrap (8 + 8 * (k : Int)) = (p2 : Int) := by rw [show 8 + 8 * (k : Int) = (p2 : Int) by omega]; exact IntWalk.i64_in _ (by omega)
              have r2' : wrap64 (8 + 8 * (k : Int)) = (p2 : Int) := by unfold wrap64; omega
              have r3 : IntKind.i64.wrap (va : Int) = (va : Int) := IntWalk.i64_in _ (by omega)
              have r4 : IntKind.i64.wrap (vb : Int) = (vb : Int) := IntWalk.i64_in _ (by omega)
              clear hp1 hp2
              have HG1 := Lib.hid (HP1.out wr HOW.out.be)
              go_wp2_with (go_at_call 24; refine HG1.out.mono ?_; rintro _ w5 ⟨rfl, hb⟩; refine Hid.out ?_)
              have HO5 := Lib.hid (HOW.out.below hb)
              have HG2 := Lib.hid (HP2.out w5 (HOW.out.below hb).be)
              clear hb HG1
              refine go_on ?_
              go_wp2_with (go_at_call 24; refine HG2.out.mono ?_; rintro _ w6 ⟨rfl, hb⟩; refine Hid.out ?_)
              have HO6 := Lib.hid ((HO5.out.below hb).below (below_new w6 (.cells #[.int .i64 (va : Int), .int .i64 (vb : Int)] 45)))
              clear hb HG2
              refine go_on ?_
              go_wp2_with (at_builtin; refine wp_app2 Tryd.underlying22 ext_info (by rfl) (.tmp 62) (.tmp 68) (by rfl) w2 _ (ents x k) ((va : Int), (vb : Int)) w6.heap.size (by rfl) (by rfl) HO6.out (Bx.new w6 _ _) HOL.out ?_; intro V7 w7 how7; refine Hid.out ?_)
              rw [← HE.out] at how7
              have HO7 := Lib.hid how7
              clear how7
              refine go_on ?_
              go_wp2
              go_roundw
              case rel => exact ⟨k + 1, by go_num, by omega, HO7.out⟩
              case measure => simp [intOf]; omega
            · obtain rfl : k = N := by omega
              have hown := HOW.out.own
              rw [ents_len] at hown
              obtain ⟨_, _, ev, -, hex, -⟩ := own_ex hown
              cases ev
              have HOWN := Lib.hid hown
              have HB6 := Lib.hid (below_more HB2.out HOW.out.be)
              have HGD := Lib.hid (good_any A4 k C4 w2.heap.size wr.heap.size (ents x k) 4194304 wr (by omega) hex (Nat.le_refl _))
              clear hown hex
              by_cases hg : goodP (ents x k) 4194304
              · have HGO := Lib.hid hg
                have HOK := Lib.hid (show LoadOk x (ents x k) from ⟨hg, HEO.out k (by rw [HQ.out]; exact HLEN.out) HN.out⟩)
                clear hg
                go_wp2_with (go_at_call 15; refine HGD.out.mono ?_; rintro _ w8 ⟨he, hb⟩; rw [decide_eq_true HGO.out] at he; subst he; refine Hid.out ?_)
                have HB8 := Lib.hid (below_more HB6.out hb)
                have ho8 := (HOW.out.below hb).own
                rw [ents_len] at ho8
                have HO8 := Lib.hid (own_base ho8 HB2.out.size)
                clear hb ho8 HGD
                refine go_on ?_
                go_wp2
                go_ret2
                first | exact ⟨A4, C4, k, 0, ents x k, rfl, .inr ⟨x, HUN.out, .inr ⟨HOK.out, rfl⟩⟩, ents_len _ _, HO8.out, HB8.out⟩ | exact ⟨A4, C4, k, 0, rfl, ents x k, .inr ⟨x, HUN.out, .inr ⟨HOK.out, rfl⟩⟩, ents_len _ _, HO8.out, HB8.out⟩
              · have HGO := Lib.hid hg
                have HNO := Lib.hid (show ∀ l', ¬ LoadOk x l' from fun l' h => by
                  obtain ⟨p1, p2, p3, p4⟩ := HOE.out l' h
                  have e : l'.length = k := by rw [← p3, HN.out]
                  rw [e] at p4
                  exact hg (by rw [p4]; exact h.1))
                clear hg
                go_wp2_with (go_at_call 15; refine HGD.out.mono ?_; rintro _ w8 ⟨he, hb⟩; rw [decide_eq_false HGO.out] at he; subst he; have HB8 := Lib.hid (below_more HB6.out hb); clear hb)
                go_ret2
                first | exact ⟨none, 0, 0, 5, [], rfl, .inr ⟨x, HUN.out, .inl ⟨HNO.out, rfl, rfl⟩⟩, rfl, World.ownsRow_nil _ _ _ _, HB8.out⟩ | exact ⟨none, 0, 0, 5, rfl, [], .inr ⟨x, HUN.out, .inl ⟨HNO.out, rfl, rfl⟩⟩, rfl, World.ownsRow_nil _ _ _ _, HB8.out⟩
        · have HNO := Lib.hid (show ∀ l', ¬ LoadOk x l' from fun l' h => by have h1 := HOE.out l' h; have h2 := HN.out; have h3 := HQ.out; omega)
          have z2 : ((q : Int) == 4 + 8 * (N : Int)) = false := by simp; omega
          have z3 : ((q : Int) != 4 + 8 * (N : Int)) = true := by simp; omega
          have z4 : ¬ (q : Int) = 4 + 8 * (N : Int) := by omega
          go_wp2_with (go_at_call 24; refine HGT.out.mono ?_; rintro _ w2 ⟨rfl, hb⟩; have HB2 := Lib.hid (below_more HB1.out hb); clear hb)
          go_ret2
          first | exact ⟨none, 0, 0, 5, [], rfl, .inr ⟨x, HUN.out, .inl ⟨HNO.out, rfl, rfl⟩⟩, rfl, World.ownsRow_nil _ _ _ _, HB2.out⟩ | exact ⟨none, 0, 0, 5, rfl, [], .inr ⟨x, HUN.out, .inl ⟨HNO.out, rfl, rfl⟩⟩, rfl, World.ownsRow_nil _ _ _ _, HB2.out⟩
  · have HX : x = [] := by
      rcases hun with ⟨_, _, h⟩ | ⟨_, _, _, h⟩ | ⟨_, _, h, _⟩
      · exact h
      · exact h
      · exact absurd h hz
    subst HX
    have z1 : (z != 0) = true := by simp [bne]; exact hz
    have z2 : (z == 0) = false := beq_eq_false_iff_ne.2 hz
    have HZ := Lib.hid hz
    clear hz hun hrow hb
    refine go_on ?_
    go_wp2
    go_ret2
    first | exact ⟨none, 0, 0, z, [], rfl, .inl ⟨HUN.out, HZ.out, rfl⟩, rfl, World.ownsRow_nil _ _ _ _, HB1.out⟩ | exact ⟨none, 0, 0, z, rfl, [], .inl ⟨HUN.out, HZ.out, rfl⟩, rfl, World.ownsRow_nil _ _ _ _, HB1.out⟩
end Go.Proofs.YtkdfafaiabidgaaDoor.X5
