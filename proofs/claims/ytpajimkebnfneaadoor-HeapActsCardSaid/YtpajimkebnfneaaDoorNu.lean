/- The reference's Add, Bytes: the walks. -/
import Derived.Test.YtpajimkebnfneaaDoorNt
namespace Go.Proofs.YtpajimkebnfneaaDoor.X5
set_option linter.unusedVariables false
set_option linter.unusedSimpArgs false
open Go.RowKit Go.Maps Wd Ty9

section
variable {w : World} {S : Nat → Prop} {rb : Nat} {V : Value} {vs : List (Bool × Value)} {M : List (Option (List Nat))}
theorem rdrop_no (h : RhR w S rb V vs M) (hl : M.length ≤ 60000) {z : Int} (hz : z ∉ idsL M) (hr : -9223372036854775808 ≤ z ∧ z ≤ 9223372036854775807) :
    Calls Tryd.prog 20 #[.pointer (some ⟨rb, 0, none⟩), .int .i64 z] w fun e w' => e = .returned (.int .i64 10) ∧ w' = w := by
  have c0 : w.cell? ⟨rb, 0, none⟩ = some V := h.box.cell 0
  obtain ⟨A, c, hV⟩ := h.form
  by_cases h0 : z < 0
  · subst hV
    clear h hz hr
    generalize M.length = n at *
    go_enter Tryd.func20, Tryd.ntmps20
    go_wp2
    go_ret
    exact ⟨rfl, rfl⟩
  · obtain ⟨i, rfl⟩ : ∃ i : Nat, z = (i : Int) := ⟨z.toNat, by omega⟩
    by_cases hi : M.length ≤ i
    · have hiz : (M.length : Int) ≤ (i : Int) := by omega
      have hi0 : ¬ (i : Int) < 0 := by omega
      subst hV
      clear h hz hr h0
      generalize M.length = n at *
      go_enter Tryd.func20, Tryd.ntmps20
      go_wp2
      go_ret
      exact ⟨rfl, rfl⟩
    · have hiz : ¬ (M.length : Int) ≤ (i : Int) := by omega
      have hi1 : (i : Int) < (M.length : Int) := by omega
      have hi0 : ¬ (i : Int) < 0 := by omega
      have hi2 : (0 : Int) ≤ (i : Int) := by omega
      obtain ⟨g, cg, hV2, hgl, hcs⟩ := h.get (i := i) (by omega)
      subst hV
      injection hV2 with e1 _ e2
      subst e1 e2
      rcases hcs with ⟨hm, c1, -⟩ | ⟨x, Ax, d, hm, -⟩
      · clear h hz hr h0 hm
        generalize M.length = n at *
        go_enter Tryd.func20, Tryd.ntmps20
        go_wp2
        go_ret
        exact ⟨rfl, rfl⟩
      · exact absurd ((idsL_mem _ _).mpr ⟨by omega, x, by simpa using hm⟩) hz
theorem radd_big {k : Nat} (hk : 65536 < k) {X : Option Addr} {d : Nat} :
    Calls Tryd.prog 18 #[.pointer (some ⟨rb, 0, none⟩), .slice X k d] w fun e w' => e = .returned (.tuple #[.int .i64 0, .int .i64 3]) ∧ w' = w := by
  have z1 : (65536 : Int) < (k : Int) := by omega
  go_enter Tryd.func18, Tryd.ntmps18
  go_wp2
  go_ret2
  exact ⟨rfl, rfl⟩
set_option maxHeartbeats 1000000 in
set_option maxRecDepth 100000 in
theorem radd_any (h : RhR w S rb V vs M) (hl : M.length ≤ 60000) {X : Option Addr} {k d : Nat} {xs : List Nat} (hx : Byt w w.heap.size X k xs) (hk : k ≤ 65536) :
    Calls Tryd.prog 18 #[.pointer (some ⟨rb, 0, none⟩), .slice X k d] w fun e w' => e = .returned (.tuple #[.int .i64 (hole M), .int .i64 0]) ∧
      (∃ S' V' vs', RhR w' S' rb V' vs' (putL M (hole M) (some xs)) ∧ (∀ j, S' j → S j ∨ w.heap.size ≤ j)) ∧ Ch (fun k => k = rb ∨ V.ownBlock = some k) w w' := by
  have HL := Lib.hid (rlen_any h hl)
  have HH := Lib.hid h
  have HX := Lib.hid hx
  have hcl := cntL_le M
  have z1 : ¬ (65536 : Int) < (k : Int) := by omega
  have hne : ((cntL M : Int) == 65536) = false := beq_eq_false_iff_ne.mpr (by omega)
  have HML := Lib.hid hl
  generalize cntL M = cn at *
  clear h hx hl hcl
  go_enter Tryd.func18, Tryd.ntmps18
  go_wp2_with (go_at_call 32; refine HL.out.mono ?_; rintro _ w2 ⟨rfl, hb2⟩; refine Hid.out ?_)
  have HB2 := Lib.hid hb2
  have HH2 := Lib.hid (HH.out.later hb2)
  have HX2 := Lib.hid (HX.out.later hb2)
  have HBN := Lib.hid (below_new w2 (.cells (by8 []).toArray 5))
  have HR0 := Lib.hid (RowB.lit w2 [] (fun x h => absurd h (List.not_mem_nil)) (by simp) (Nat.le_refl w2.heap.size))
  have HY := Lib.hid (HX2.out.later (HBN.out.mono HB2.out.size))
  have HBB := Lib.hid (HBN.out.size)
  have HLL := Lib.hid (show ([] : List Nat).length + k ≤ 140737488355328 by show 0 + k ≤ _; omega)
  clear hb2
  refine go_on ?_
  go_wp2_with (at_builtin; refine wp_rowb rfl (.tmp 14) (.tmp 15) rfl w2.heap.size k d _ [] xs X w.heap.size rfl rfl HR0.out HY.out HLL.out HBB.out ?_; intro V3 w3 hrow3 hb3; refine Hid.out ?_)
  rw [List.nil_append] at hrow3
  obtain ⟨A3, c3, rfl, hby3⟩ := hrow3.byt
  have HCP := Lib.hid (show xs.length ≤ c3 by
    rcases hrow3.own.2 with ⟨hv, h1⟩ | ⟨g, cap, cur, hv, _, _, hc, _⟩
    · injection hv with e1 e2 e3; omega
    · injection hv with e1 e2 e3; omega)
  have hlx := HX.out.len
  have HLX := Lib.hid hlx
  have hHB3 := below_more HB2.out (HBN.out.trans hb3)
  have HFR := Lib.hid (show ∀ bb oo, 0 < xs.length → A3 = some ⟨bb, oo, none⟩ → (Value.slice A3 xs.length c3).ownBlock = some bb ∧ w2.heap.size ≤ bb from fun bb oo _ e => by subst e; exact ⟨rfl, (hrow3.own.lt bb rfl).1⟩)
  have HOL := Lib.hid (show ∀ j, (Value.slice A3 xs.length c3).ownBlock = some j → w2.heap.size ≤ j ∧ j < w3.heap.size from fun j hj => hrow3.own.lt j hj)
  rw [hlx] at HFR HOL
  obtain ⟨n, hn⟩ : ∃ n, M.length = n := ⟨_, rfl⟩
  have HN := Lib.hid hn
  have hh3 := HH.out.later hHB3
  obtain ⟨A, c, hV⟩ := hh3.form
  rw [hn] at hV
  subst hV
  have hba := below_new w3 (.cells #[.bool true, .slice A3 k c3] 76)
  have HH4 := Lib.hid (hh3.later hba)
  have HB4 := Lib.hid (below_more hHB3 hba)
  have HBX := Lib.hid (Bx.new w3 76 #[.bool true, .slice A3 k c3])
  have HBY := Lib.hid ((hby3.later hba).up hba.size)
  have HSZ := Lib.hid (show w3.heap.size ≤ (w3.alloc (.cells #[.bool true, .slice A3 k c3] 76)).heap.size from hba.size)
  rw [hlx] at HBY ⊢
  clear hrow3 hb3 hby3 hlx hn hHB3 hh3 hba
  refine go_on ?_
  go_wp2
  generalize w3.alloc (.cells #[.bool true, .slice A3 k c3] 76) = wo at *
  generalize w3.heap.size = xb at *
  go_loopw [7] (fun i wr => wr = wo ∧ ∃ (q : Nat), i = .int .i64 q ∧ q ≤ hole M ∧ q ≤ n) (fun i _ => n - (RowKit.intOf i).toNat)
  case atStart => exact ⟨rfl, 0, rfl, Nat.zero_le _, Nat.zero_le _⟩
  case round =>
    obtain ⟨rfl, q, rfl, hqh, hq⟩ := hrel
    have HQH := Lib.hid hqh
    have c0 : wr.cell? ⟨rb, 0, none⟩ = some (.slice A n c) := HH4.out.box.cell 0
    have x0 : wr.cell? ⟨xb, 0, none⟩ = some (.bool true) := HBX.out.cell 0
    have x1 : wr.cell? ⟨xb, 1, none⟩ = some (.slice A3 k c3) := HBX.out.cell 1
    clear hqh
    by_cases hlt : q < n
    · have hltz : (q : Int) < (n : Int) := by omega
      have hq0 : (0 : Int) ≤ (q : Int) := by omega
      have hq9 : q < 60000 := by have := HML.out; have := HN.out; omega
      obtain ⟨g, cg, hV, hgl, hcs⟩ := HH4.out.get (i := q) (by rw [HN.out]; exact hlt)
      injection hV with e1 e2 e3
      subst e1 e3
      clear e2
      rcases hcs with ⟨hm, c1, c2⟩ | ⟨x, Ax, dx, hm, c1, c2, _⟩
      · have hhole : hole M = q := by
          rcases Nat.lt_or_ge q (hole M) with h1 | h1
          · obtain ⟨v, hv⟩ := hole_lt M q h1
            rw [hm] at hv; cases hv
          · have := HQH.out; omega
        have HHO := Lib.hid hhole
        have f0 := HH4.out.own
        rw [HN.out] at f0
        have f1 := f0.frozenAt (q * 2)
        have f2 := f0.frozenAt (q * 2 + 1)
        clear f0 hm hhole
        go_wp2
        have bd := (Below.refl wr.heap.size wr).drew
        go_still_tail 7, (by kernel_rfl)
        change wpList _ _ _ _ _ wr.drew
        have HH5 := Lib.hid (show RhR wr.drew _ _ _ _ _ from HH4.out.later bd)
        have HB5 := Lib.hid (below_more HB4.out bd)
        have HBY5 := Lib.hid (show Byt wr.drew wr.drew.heap.size A3 k xs from (HBY.out.later bd).up bd.size)
        have g1 : wr.drew.frozen? ⟨g, q * 2, none⟩ = false := f1
        have g2 : wr.drew.frozen? ⟨g, q * 2 + 1, none⟩ = false := f2
        have d1 : wr.drew.cell? ⟨g, q * 2, none⟩ = some (.bool false) := c1
        have d2 : wr.drew.cell? ⟨g, q * 2 + 1, none⟩ = some (.slice none 0 0) := c2
        have HSZ5 := Lib.hid (show xb ≤ wr.drew.heap.size from Nat.le_trans HSZ.out bd.size)
        clear c0 c1 c2 x0 x1 f1 f2 bd
        generalize wr.drew = w6 at *
        go_wp2
        go_ret2
        have hsr := HH.out.sv g rfl
        have hRh := HH5.out
        rw [show (Value.slice (some ⟨g, 0, none⟩) n c) = .slice (some ⟨g, 0, none⟩) M.length c by rw [HN.out]] at hRh
        obtain ⟨p1, p2⟩ := hRh.set (S' := fun j => S j ∨ (Value.slice A3 k c3).ownBlock = some j) (i := q) (by rw [HN.out]; exact hlt) true (.slice A3 k c3) (some xs) (fun _ h => .inl h) (fun j hj => by
            rcases hj with hj | hj
            · exact Nat.lt_of_lt_of_le (HH.out.sb j hj) HB5.out.size
            · have := (HOL.out j hj).2; have := HSZ5.out; omega) (.inr ⟨xs, A3, c3, rfl, rfl, by rw [HLX.out], HCP.out, by rw [HLX.out]; exact hk, by rw [HLX.out]; exact HBY5.out, fun bb oo h0 e => by
              have := HFR.out bb oo (by rw [← HLX.out]; exact h0) e
              have h3 := HB2.out.size
              have h4 := HH.out.sb rb HH.out.sh
              have h5 := HH.out.sb g hsr.1
              exact ⟨.inr this.1, by omega, by omega⟩⟩)
        have hpl : putL M (hole M) (some xs) = M.set q (some xs) := by unfold putL; rw [HHO.out, if_pos (by rw [HN.out]; exact hlt)]
        refine ⟨by rw [HHO.out]; rfl, ⟨_, _, _, by rw [hpl]; exact p1, fun j hj => Or.imp id (fun h => Nat.le_trans HB2.out.size (HOL.out j h).1) hj⟩, ?_⟩
        exact (Ch.of_below (P := fun _ => False) HB5.out).trans p2 (fun _ h => h.elim) (fun j e => .inr (by rw [e]; rfl))
      · have HLT := Lib.hid (show q + 1 ≤ hole M by
          rcases Nat.lt_or_ge q (hole M) with h1 | h1
          · exact h1
          · have h2 : q = hole M := by have := HQH.out; omega
            rw [h2] at hm
            exact absurd hm (hole_at M x))
        clear hm c2
        go_wp2
        go_roundw
        case rel => exact ⟨(by trivial), q + 1, by go_num, HLT.out, by omega⟩
        case measure => simp [RowKit.intOf]; omega
    · obtain rfl : q = n := by omega
      have HHO := Lib.hid (show hole M = q by have h1 := HQH.out; have h2 := hole_le M; have := HN.out; omega)
      have hap := HH4.out.own
      rw [HN.out] at hap
      have HAP := Lib.hid (show ((wr.drew).alloc (.cells #[.bool true, .slice A3 k c3] 76)).ownsRow 0 76 2 (.slice A q c) q (scl vs) from hap.alloc _)
      have HQ := Lib.hid (show (q + 1) * 32 ≤ 140737488355328 by have := HML.out; have := HN.out; omega)
      have HBW := Lib.hid (((Below.refl wr.heap.size wr).drew).alloc (Nat.le_refl _) (.cells #[.bool true, .slice A3 k c3] 76))
      have HPU := Lib.hid (fun (V' : Value) (w4 : World) (h1 : w4.ownsRow 0 76 2 V' (q + 1) (scl (vs ++ [(true, .slice A3 k c3)]))) (h2 : ((wr.drew).alloc (.cells #[.bool true, .slice A3 k c3] 76)).grownBy w4 (Value.slice A q c).ownBlock) (h3 : ∀ k', V'.ownBlock = some k' → (Value.slice A q c).ownBlock = some k' ∨ ((wr.drew).alloc (.cells #[.bool true, .slice A3 k c3] 76)).heap.size ≤ k') =>
        RhR.pushed (B := w2.heap.size) (c3 := c3) (A3 := A3) (xs := xs) HH4.out HBW.out h2 (by rw [HN.out, HLX.out]; exact h1) h3 HCP.out (by rw [HLX.out]; exact hk) (by rw [HLX.out]; exact (HBY.out.later HBW.out).up HBW.out.size) (by rw [HLX.out]; exact HFR.out) (fun j hj => Nat.lt_of_lt_of_le (HH.out.sb j hj) HB2.out.size) (by rw [HLX.out]; exact fun j hj => Nat.lt_of_lt_of_le (HOL.out j hj).2 (Nat.le_trans HSZ.out HBW.out.size)))
      rw [HLX.out] at HPU
      have hw : IntKind.i64.wrap (q : Int) = (q : Int) := by have := HML.out; have := HN.out; exact IntWalk.i64_in _ (by omega)
      have a0 : (wr.alloc (.cells #[.bool true, .slice A3 k c3] 76)).cell? ⟨rb, 0, none⟩ = some (.slice A q c) := ((below_new wr (.cells #[.bool true, .slice A3 k c3] 76)).cell (p := ⟨rb, 0, none⟩) HH4.out.box.lt).trans c0
      clear hlt hq hap
      go_wp2
      go_upto_region 12 with fail
      go_region_law (refine step_pushS (by rfl) (.tmp 48) (.tmp 50) (by rfl) (.slice A q c) q vs (.slice A3 k c3) wr.heap.size (by simp [Act.eval, Act.put]) (by simp [Act.eval, Act.put]) HAP.out (Bx.new wr.drew _ _) rfl HQ.out ?_; intro V4 w4 how hgr hvv; obtain ⟨A4, c4, rfl⟩ := own_form how; have HPP := Lib.hid (HPU.out _ w4 how hgr hvv); have b0 := HPP.out.1.cell 0; have bf := HPP.out.1.frozen 0; have HVV := Lib.hid hvv; clear how hgr hvv)
      all_goals
        have HRR := Lib.hid HPP.out.2.1
        have HCC := Lib.hid HPP.out.2.2
        have e0 : (w4.setCell ⟨rb, 0, none⟩ (.slice A4 (q + 1) c4)).cell? ⟨rb, 0, none⟩ = some (.slice A4 (q + 1) c4) := HRR.out.box.cell 0
        have HSB := Lib.hid (show w.heap.size ≤ ((wr.drew).alloc (.cells #[.bool true, .slice A3 k c3] 76)).heap.size from Nat.le_trans HB4.out.size HBW.out.size)
        clear b0 bf x0 x1 c0 a0 HPP HPU HAP HBW
        generalize w4.setCell ⟨rb, 0, none⟩ (.slice A4 (q + 1) c4) = w7 at *
        go_wp2
        go_ret2
        have hpl : putL M (hole M) (some xs) = M ++ [some xs] := by unfold putL; rw [if_neg (by rw [HHO.out, HN.out]; exact Nat.lt_irrefl _)]
        refine ⟨by rw [HHO.out]; try rfl, ⟨_, _, _, by rw [hpl]; exact HRR.out, fun j hj => ?_⟩, (Ch.of_below (P := fun _ => False) HB4.out).trans HCC.out (fun _ h => h.elim) (fun _ h => h)⟩
        rcases hj with hj | hj | hj
        · exact .inl hj
        · exact .inr (Nat.le_trans HB2.out.size (HOL.out j hj).1)
        · rcases HVV.out j hj with h1 | h1
          · exact .inl (HH.out.sv j h1).1
          · exact .inr (Nat.le_trans HSB.out h1)
end
end Go.Proofs.YtpajimkebnfneaaDoor.X5
