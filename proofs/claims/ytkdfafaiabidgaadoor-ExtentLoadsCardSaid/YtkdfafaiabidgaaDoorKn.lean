/- slices.Delete of one extent. -/
import Derived.Test.YtkdfafaiabidgaaDoorKm
import Derived.Deep.RegionLaw
namespace Go.Proofs.YtkdfafaiabidgaaDoor.X5
set_option linter.unusedVariables false
set_option linter.unusedSimpArgs false
open Go.RowKit Wd Ty9

theorem cl_drop (xs : List Xt) (j q : Nat) (u : Value) (h : (cl (xs.drop j))[q]? = some u) : (cl xs)[j * 2 + q]? = some u := by
  have e : cl xs = cl (xs.take j) ++ cl (xs.drop j) := by rw [← cl_app, List.take_append_drop]
  obtain ⟨i, hi, _⟩ := cl_at h
  rw [List.length_drop] at hi
  rw [e, List.getElem?_append_right (by rw [cl_len, List.length_take]; omega), cl_len, List.length_take, show j * 2 + q - min j xs.length * 2 = q by rw [Nat.min_eq_left (by omega)]; omega]
  exact h
theorem cl_take (xs : List Xt) (j q : Nat) (u : Value) (h : (cl (xs.take j))[q]? = some u) : (cl xs)[q]? = some u := by
  have e : cl xs = cl (xs.take j) ++ cl (xs.drop j) := by rw [← cl_app, List.take_append_drop]
  rw [e, List.getElem?_append_left (List.getElem?_eq_some_iff.mp h).1]
  exact h

set_option maxHeartbeats 4000000 in
set_option maxRecDepth 100000 in
theorem delete1_any (b o n C lo hi i j : Nat) (ys : List Xt) (w : World) (hn : n ≤ 140737488355328) (hC : n ≤ C) (hC2 : C ≤ 9223372036854775807) (hj : j = i + 1) (hin : i < n) (h : Ex w lo hi (some ⟨b, o, none⟩) n ys) (ht : Thaw w (some ⟨b, o, none⟩) n) :
    Calls Tryd.prog 35 #[.slice (some ⟨b, o, none⟩) n C, .int .i64 i, .int .i64 j] w fun e w' => e = .returned (.slice (some ⟨b, o, none⟩) (n - 1) C) ∧ Ex w' lo hi (some ⟨b, o, none⟩) (n - 1) (ys.take i ++ ys.drop j) ∧ Thaw w' (some ⟨b, o, none⟩) (n - 1) ∧ Ch (fun k => lo ≤ k ∧ k < hi) w w' := by
  obtain ⟨i0, hi0, hz, hs, hbt⟩ := info_parts ext_info
  have hl := h.len
  obtain ⟨b', o', e, hb1, hb2, hc⟩ := h.at_ (by omega)
  cases e
  have hf := ht (by omega) b o rfl
  obtain ⟨A, hA, hnews⟩ : ∃ A : Addr, (if C = j then some (⟨b, o, none⟩ : Addr) else some ⟨b, o + j * 2, none⟩) = some A ∧ Hid (∀ q u, (cl (ys.drop j))[q]? = some u → w.drew.cell? (A.add q) = some u) := by
    by_cases hcj : C = j
    · refine ⟨⟨b, o, none⟩, by simp [hcj], fun q u hu => ?_⟩
      obtain ⟨r, hr, _⟩ := cl_at hu
      rw [List.length_drop] at hr
      omega
    · refine ⟨⟨b, o + j * 2, none⟩, by simp [hcj], fun q u hu => ?_⟩
      rw [Addr.add_lit, Nat.add_assoc]
      exact hc _ _ (cl_drop ys j q u hu)
  have s1 : Hid ((cl (ys.drop j)).length = (n - j) * 2) := by rw [cl_len, List.length_drop, hl]; rfl
  have s2 : Hid (∀ u ∈ cl (ys.drop j), u.oneCell' = true) := cl_one _
  have s3 : Hid (∀ q, q < (cl (ys.drop j)).length → (w.drew.cell? ⟨b, o + i * 2 + q, none⟩).isSome = true ∧ w.drew.frozen? ⟨b, o + i * 2 + q, none⟩ = false) := by
    intro q hq
    rw [cl_len, List.length_drop] at hq
    refine ⟨?_, hf _⟩
    have h4 : i * 2 + q < (cl ys).length := by rw [cl_len]; omega
    show (w.cell? _).isSome = true
    rw [Nat.add_assoc, hc _ _ (List.getElem?_eq_getElem h4)]
    rfl
  have HF := Lib.hid hf
  have HX := Lib.hid h
  have hic : i ≤ C := by omega
  have hjc : j ≤ n := by omega
  have hij : i ≤ j := by omega
  have hne : ((i : Int) == (j : Int)) = false := beq_eq_false_iff_ne.2 (by omega)
  have hne2 : ¬ (i : Int) = (j : Int) := by omega
  have hJ := Lib.hid hj
  have HC := Lib.hid hc
  clear hc hf ht h hj
  go_enter Tryd.func35, Tryd.ntmps35
  go_upto_region 5 with fail
  go_region_law (refine step_append_room rfl (.tmp 22) (.tmp 25) 22 rfl 45 i0 2 Tryd.underlying22 hi0 hs b o i C (by simp [Act.eval, Act.put]) A (n - j) (C - j) (cl (ys.drop j)) (by simp [Act.eval, Act.put]) s1.out hnews.out s2.out (by omega) s3.out ?_)
  all_goals
    obtain ⟨q1, q2, q3, q4, q5⟩ := setCells_keep b (cl (ys.drop j)) (o + i * 2) w.drew
    have hfz : ∀ k, (w.drew.setCells b (o + i * 2) (cl (ys.drop j))).frozen? ⟨b, k, none⟩ = false := fun k => (World.frozen?_setCells b _ _ w.drew _).trans (HF.out k)
    have hout : ∀ k, k < o + i * 2 ∨ o + n * 2 - 2 ≤ k → (w.drew.setCells b (o + i * 2) (cl (ys.drop j))).cell? ⟨b, k, none⟩ = w.cell? ⟨b, k, none⟩ := fun k hk => World.cell?_setCells_out b _ _ w.drew ⟨b, k, none⟩ (fun _ _ => by
      rw [s1.out]; have := hJ.out; show k < o + i * 2 ∨ o + i * 2 + (n - j) * 2 ≤ k; omega)
    have hinn : ∀ k (hk : k < (cl (ys.drop j)).length), (w.drew.setCells b (o + i * 2) (cl (ys.drop j))).cell? ⟨b, o + i * 2 + k, none⟩ = some ((cl (ys.drop j))[k]) := fun k hk => World.cell?_setCells_in b _ _ w.drew (fun q hq => (s3.out q hq).1) k hk
    have HFZ := Lib.hid hfz
    have HOUT := Lib.hid hout
    have HINN := Lib.hid hinn
    have HCH := Lib.hid (show Ch (fun k => k = b) w (w.drew.setCells b (o + i * 2) (cl (ys.drop j))) from ⟨q2, q3, q4, Nat.le_of_eq q1.symm, fun k _ hk => q5 k hk⟩)
    obtain ⟨m, hm⟩ : ∃ m, i + (n - j) = m := ⟨_, rfl⟩
    have hmn : m + 1 = n := by have := hJ.out; omega
    have HMN := Lib.hid hmn
    have hCm : ¬ (C = m) := by omega
    have hmn2 : m ≤ n := by omega
    rw [hm]
    clear q1 q2 q3 q4 q5 hfz hout hinn hA hnews s1 s2 s3
    generalize hW : w.drew.setCells b (o + i * 2) (cl (ys.drop j)) = W at *
    have hcl : ∀ ty, (Builtin.clear_ #[22] ty #[.slice (some ⟨b, o + m * 2, none⟩) (n - m) (C - m)]).run Tryd.prog W = .ok (.tuple #[]) (W.setCells b (o + m * 2) (List.replicate ((n - m) * 2) (.int .i64 0))) :=
      fun ty => run_clear2 W _ _ ty _ Tryd.underlying22 Tryd.zeroValue45 rfl b (o + m * 2) _ _ (by omega) (fun q hq => by
        have h4 : m * 2 + q < (cl ys).length := by rw [cl_len]; omega
        rw [HOUT.out (o + m * 2 + q) (by omega), Nat.add_assoc, HC.out _ _ (List.getElem?_eq_getElem h4)]
        rfl) HFZ.out
    clear hm hmn hW hne hne2
    go_wp2
    go_ret
    obtain ⟨q1, q2, q3, q4, q5⟩ := setCells_keep b (List.replicate ((n - m) * 2) (.int .i64 0)) (o + m * 2) W
    have e1 : n - 1 = m := by have := HMN.out; omega
    rw [e1]
    refine ⟨rfl, ⟨by have := HMN.out; have := hJ.out; simp; omega, fun hm0 => ⟨b, o, rfl, hb1, hb2, fun q u hu => ?_⟩⟩, fun hm0 b' o' e k => ?_, ?_⟩
    · have h5 := HMN.out
      have h6 := hJ.out
      have h7 : q < m * 2 := by
        have := (List.getElem?_eq_some_iff.mp hu).1
        rw [cl_len] at this
        simp at this
        omega
      rw [World.cell?_setCells_out b _ _ W ⟨b, o + q, none⟩ (fun _ _ => .inl (by show o + q < o + m * 2; omega))]
      rw [cl_app] at hu
      have h8 : (cl (ys.take i)).length = i * 2 := by rw [cl_len, List.length_take]; omega
      rcases Nat.lt_or_ge q (i * 2) with hq | hq
      · rw [List.getElem?_append_left (by omega)] at hu
        rw [HOUT.out (o + q) (by omega)]
        exact HC.out _ _ (cl_take ys i q u hu)
      · rw [List.getElem?_append_right (by omega), h8] at hu
        obtain ⟨h9, h10⟩ := List.getElem?_eq_some_iff.mp hu
        have h11 := HINN.out (q - i * 2) h9
        rw [show o + i * 2 + (q - i * 2) = o + q by omega, h10] at h11
        exact h11
    · cases e
      rw [World.frozen?_setCells]
      exact HFZ.out k
    · exact HCH.out.trans (Q := fun k => k = b) (R := fun k => lo ≤ k ∧ k < hi) ⟨q2, q3, q4, Nat.le_of_eq q1.symm, fun k _ hk => q5 k hk⟩ (fun k hk => by subst hk; exact ⟨hb1, hb2⟩) (fun k hk => by subst hk; exact ⟨hb1, hb2⟩)
end Go.Proofs.YtkdfafaiabidgaaDoor.X5
