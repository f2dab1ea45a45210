/- The reference's Bytes: the walk. -/
import Derived.Test.YtpajimkebnfneaaDoorNu
namespace Go.Proofs.YtpajimkebnfneaaDoor.X5
set_option linter.unusedVariables false
set_option linter.unusedSimpArgs false
open Go.RowKit Go.Maps Wd Ty9

section
variable {w : World} {S : Nat → Prop} {rb : Nat} {V : Value} {vs : List (Bool × Value)} {M : List (Option (List Nat))}
theorem RhR.small (h : RhR w S rb V vs M) : smallL M := fun x hx => by
  obtain ⟨i, hi⟩ := List.mem_iff_getElem?.mp hx
  obtain ⟨_, _, _, _, h3, _⟩ := h.row i x hi
  exact h3
set_option maxHeartbeats 2000000 in
set_option maxRecDepth 100000 in
theorem rbytes_any (h : RhR w S rb V vs M) (hl : M.length ≤ 1000) :
    Calls Tryd.prog 34 #[.pointer (some ⟨rb, 0, none⟩)] w fun e w' => ∃ U, e = .returned U ∧ RowB w' w.heap.size U (sealL (digs 4 true M.length ++ M.flatMap slotB)) ∧ Below w.heap.size w w' := by
  have HH := Lib.hid h
  have HSM := Lib.hid h.small
  have HML := Lib.hid hl
  obtain ⟨n, hn⟩ : ∃ n, M.length = n := ⟨_, rfl⟩
  have HN := Lib.hid hn
  obtain ⟨A, c, hV⟩ := h.form
  rw [hn] at hV hl ⊢
  subst hV
  have c0 : w.cell? ⟨rb, 0, none⟩ = some (.slice A n c) := h.box.cell 0
  have HD := Lib.hid (digits_any true 4 n w (by omega) (by omega))
  have hwn : IntKind.u64.wrap (n : Int) = (n : Int) := by rw [IntKind.wrap_u64]; omega
  clear h hn
  go_enter Tryd.func34, Tryd.ntmps34
  go_wp2_with (go_at_call 43; refine HD.out.mono ?_; rintro _ w2 ⟨U, rfl, hr, hb2⟩; refine Hid.out ?_)
  have HR2 := Lib.hid hr
  have HB2 := Lib.hid hb2
  clear hr hb2 c0 HD
  refine go_on ?_
  go_wp2
  go_loopw [3, 4] (fun v i wr => ∃ (k : Nat), i = .int .i64 k ∧ k ≤ n ∧ RowB wr w.heap.size v (digs 4 true n ++ (M.take k).flatMap slotB) ∧ Below w.heap.size w wr) (fun _ i _ => n - (RowKit.intOf i).toNat)
  case atStart => exact ⟨0, rfl, Nat.zero_le _, by rw [List.take_zero, List.flatMap_nil, List.append_nil]; exact HR2.out, HB2.out⟩
  case round =>
    obtain ⟨k, rfl, hk, hr, hbe⟩ := hrel
    have HR := Lib.hid hr
    have HBE := Lib.hid hbe
    have HH4 := Lib.hid (HH.out.later hbe)
    have c0 : wr.cell? ⟨rb, 0, none⟩ = some (.slice A n c) := HH4.out.box.cell 0
    have HLEN := Lib.hid (show (digs 4 true n ++ (M.take k).flatMap slotB).length ≤ 4 + 1000 * 65541 by
      have h1 := flat_len (M.take k) (fun x hx => HSM.out x (List.mem_of_mem_take hx))
      have h2 : (M.take k).length ≤ 1000 := by rw [List.length_take]; have := HML.out; omega
      have h3 : (M.take k).length * 65541 ≤ 1000 * 65541 := Nat.mul_le_mul_right _ h2
      rw [List.length_append, digs_len]
      omega)
    clear hr hbe
    by_cases hlt : k < n
    · have hltz : (k : Int) < (n : Int) := by omega
      have hk0 : (0 : Int) ≤ (k : Int) := by omega
      have hk9 : k < 1000 := by omega
      obtain ⟨g, cg, hV, hgl, hcs⟩ := HH4.out.get (i := k) (by rw [HN.out]; exact hlt)
      injection hV with e1 e2 e3
      subst e1 e3
      clear e2
      rcases hcs with ⟨hm, c1, c2⟩ | ⟨x, Ax, dx, hm, c1, c2, hdx, hxk, hy⟩
      · have HT := Lib.hid (take_snoc hm)
        have hs : slotB (none : Option (List Nat)) = [0] := rfl
        rw [hs] at HT
        have HR3 := Lib.hid (HR.out.below (below_new wr (.cells (by8 [0]).toArray 5)))
        have HLT := Lib.hid (Byt.lit wr [0] (by simp))
        obtain ⟨o1, ho1⟩ : ∃ o1, digs 4 true n ++ (M.take k).flatMap slotB = o1 := ⟨_, rfl⟩
        have HO := Lib.hid ho1
        rw [ho1] at HR HR3 HLEN
        clear hm hs ho1
        have HBB := Lib.hid (show w.heap.size ≤ (wr.alloc (.cells (by8 [0]).toArray 5)).heap.size from Nat.le_trans HBE.out.size (below_new wr (.cells (by8 [0]).toArray 5)).size)
        have HLL := Lib.hid (show o1.length + 1 ≤ 140737488355328 by have := HLEN.out; omega)
        have HBN := Lib.hid (below_more HBE.out (below_new wr (.cells (by8 [0]).toArray 5)))
        obtain ⟨Ao, co, hVo⟩ := own_form HR.out.own
        subst hVo
        go_wp2_with (at_builtin; refine wp_rowb rfl (.tmp 45) (.tmp 46) rfl w.heap.size 1 1 _ o1 [0] (some ⟨wr.heap.size, 0, none⟩) _ rfl rfl HR3.out HLT.out HLL.out HBB.out ?_; intro V5 w5 hrow5 hb5; refine Hid.out ?_)
        have HR5 := Lib.hid hrow5
        have HB5 := Lib.hid (HBN.out.trans hb5)
        clear hrow5 hb5
        refine go_on ?_
        go_wp2
        go_roundw
        case rel => exact ⟨k + 1, by go_num, by omega, by rw [HT.out, ← List.append_assoc, HO.out]; exact HR5.out, HB5.out⟩
        case measure => simp [RowKit.intOf]; omega
      · have HT := Lib.hid (take_snoc hm)
        have HXL := Lib.hid hy.len
        obtain ⟨o1, ho1⟩ : ∃ o1, digs 4 true n ++ (M.take k).flatMap slotB = o1 := ⟨_, rfl⟩
        have HO := Lib.hid ho1
        rw [ho1] at HR HLEN
        have HR3 := Lib.hid (HR.out.below (below_new wr (.cells (by8 [1]).toArray 5)))
        have HLT := Lib.hid (Byt.lit wr [1] (by simp))
        have HBB := Lib.hid (show w.heap.size ≤ (wr.alloc (.cells (by8 [1]).toArray 5)).heap.size from Nat.le_trans HBE.out.size (below_new wr (.cells (by8 [1]).toArray 5)).size)
        have HLL := Lib.hid (show o1.length + 1 ≤ 140737488355328 by have := HLEN.out; omega)
        have HBN := Lib.hid (below_more HBE.out (below_new wr (.cells (by8 [1]).toArray 5)))
        have HYY := Lib.hid hy
        have HXK := Lib.hid hxk
        have HBW := Lib.hid (below_new wr (.cells (by8 [1]).toArray 5))
        have HWS := Lib.hid HBE.out.size
        have HGL := Lib.hid hgl
        have HRBL := Lib.hid HH4.out.box.lt
        obtain ⟨Ao, co, hVo⟩ := own_form HR.out.own
        subst hVo
        have HMX := Lib.hid hm
        clear hm ho1 hy hxk hgl
        have HC0 := Lib.hid c0
        have HC2 := Lib.hid c2
        go_wp2_with (at_builtin; refine wp_rowb rfl (.tmp 29) (.tmp 30) rfl w.heap.size 1 1 _ o1 [1] (some ⟨wr.heap.size, 0, none⟩) _ rfl rfl HR3.out HLT.out HLL.out HBB.out ?_; intro V5 w5 hrow5 hb5; refine Hid.out ?_)
        have HR5 := Lib.hid hrow5
        have HB5 := Lib.hid (HBN.out.trans hb5)
        have HH5 := Lib.hid (HH.out.later HB5.out)
        obtain ⟨g5, c5', hV5, hgl5, hcs5⟩ := HH5.out.get (i := k) (by rw [HN.out]; exact hlt)
        injection hV5 with e1 e2 e3
        injection e1 with e1
        injection e1 with e1
        subst e1 e3
        clear e2
        rcases hcs5 with ⟨hm5, _⟩ | ⟨x5, Ax5, d5, hm5, k1, k2, k3, k4, k5⟩
        · rw [HMX.out] at hm5; cases hm5
        rw [HMX.out] at hm5
        injection hm5 with hm5
        injection hm5 with hm5
        subst hm5
        have b0 : w5.cell? ⟨rb, 0, none⟩ = some (.slice (some ⟨g, 0, none⟩) n c) := HH5.out.box.cell 0
        obtain ⟨A5, c5, rfl, hby5⟩ := hrow5.byt
        have HPB := Lib.hid (rputBytes_ok (o1 ++ [1]).length c5 x.length d5 A5 Ax5 (o1 ++ [1]) x w5 k4 (by have := HLEN.out; rw [List.length_append, List.length_singleton]; omega) hby5 k5)
        have hsl : slotB (some x) = [1] ++ (digs 4 true x.length ++ x) := rfl
        rw [hsl] at HT
        obtain ⟨l5, hl5⟩ : ∃ l5, (o1 ++ [1]).length = l5 := ⟨_, rfl⟩
        rw [hl5] at HPB ⊢
        obtain ⟨lx, hlx⟩ : ∃ lx, x.length = lx := ⟨_, rfl⟩
        rw [hlx] at HPB k2
        have HLX := Lib.hid hlx
        clear hrow5 hb5 hby5 k3 k4 k5 k1 hl5 hlx hsl c0 c1 c2 hdx
        refine go_on ?_
        go_wp2_with (go_at_call 44; refine HPB.out.mono ?_; rintro _ w7 ⟨V7, rfl, hr7, hb7⟩; refine Hid.out ?_)
        have HR7 := Lib.hid (hr7.up HB5.out.size)
        have HB7 := Lib.hid (below_more HB5.out hb7)
        clear hr7 hb7
        refine go_on ?_
        go_wp2
        go_roundw
        case rel => exact ⟨k + 1, by go_num, by omega, by rw [HT.out, ← List.append_assoc, HO.out]; have h1 := HR7.out; simp only [List.append_assoc] at h1 ⊢; rw [HLX.out]; exact h1, HB7.out⟩
        case measure => simp [RowKit.intOf]; omega
    · obtain rfl : k = n := by omega
      have ht : M.take k = M := List.take_of_length_le (by rw [HN.out]; exact Nat.le_refl _)
      rw [ht] at HR HLEN
      obtain ⟨o1, ho1⟩ : ∃ o1, digs 4 true k ++ M.flatMap slotB = o1 := ⟨_, rfl⟩
      rw [ho1] at HR HLEN
      have HO := Lib.hid ho1
      obtain ⟨Ao, co, rfl, hby⟩ := HR.out.byt
      have HSE := Lib.hid (rseal_any Ao o1.length co o1 wr (by have := HLEN.out; omega) hby)
      generalize o1.length = l1 at *
      clear ht ho1 hby hlt hk
      go_wp2_with (go_at_call 45; refine HSE.out.mono ?_; rintro _ w7 ⟨V7, rfl, hr7, hb7⟩; refine Hid.out ?_)
      have HR7 := Lib.hid (hr7.up HBE.out.size)
      have HB7 := Lib.hid (below_more HBE.out hb7)
      clear hr7 hb7
      refine go_on ?_
      go_wp2
      go_ret
      exact ⟨V7, rfl, by rw [HO.out]; exact HR7.out, HB7.out⟩
end
end Go.Proofs.YtpajimkebnfneaaDoor.X5
