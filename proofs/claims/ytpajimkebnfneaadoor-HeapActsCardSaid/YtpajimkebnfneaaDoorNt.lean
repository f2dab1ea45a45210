/- The reference's Drop, Add, Bytes: the walks. -/
import Derived.Test.YtpajimkebnfneaaDoorNr
import Derived.Deep.LoopGhost
import Derived.BigQuiet
import Derived.StillTailTactics
namespace Go.Proofs.YtpajimkebnfneaaDoor.X5
set_option linter.unusedVariables false
set_option linter.unusedSimpArgs false
open Go.RowKit Go.Maps Wd Ty9

section
variable {w : World} {S : Nat → Prop} {rb : Nat} {V : Value} {vs : List (Bool × Value)} {M : List (Option (List Nat))}
theorem take_get {α : Type} {l : List α} {k m : Nat} {o : α} (h : (l.take k)[m]? = some o) : l[m]? = some o := by
  rw [List.getElem?_take] at h
  split at h
  · exact h
  · cases h
theorem RhR.form1 (h : RhR w S rb V vs M) (hn : 0 < M.length) : ∃ g c, V = .slice (some ⟨g, 0, none⟩) M.length c := by
  obtain ⟨g, c, hV, _⟩ := h.get hn
  exact ⟨g, c, hV⟩
set_option maxHeartbeats 1000000 in
set_option maxRecDepth 100000 in
theorem rdrop_yes (h : RhR w S rb V vs M) (hl : M.length ≤ 60000) {i : Nat} {x : List Nat} (hx : M[i]? = some (some x)) :
    Calls Tryd.prog 20 #[.pointer (some ⟨rb, 0, none⟩), .int .i64 (i : Int)] w fun e w' => e = .returned (.int .i64 0) ∧ (∃ V' vs', RhR w' S rb V' vs' ((M.set i none).take (lastN (M.set i none)))) ∧ Ch (fun k => k = rb ∨ V.ownBlock = some k) w w' := by
  have c0 : w.cell? ⟨rb, 0, none⟩ = some V := h.box.cell 0
  have hi := (List.getElem?_eq_some_iff.mp hx).1
  obtain ⟨A, c, hV⟩ := h.form
  have hiz : ¬ (M.length : Int) ≤ (i : Int) := by omega
  have hi1 : (i : Int) < (M.length : Int) := by omega
  have hi0 : ¬ (i : Int) < 0 := by omega
  have hi2 : (0 : Int) ≤ (i : Int) := by omega
  obtain ⟨g, cg, hV2, hgl, hcs⟩ := h.get (i := i) hi
  subst hV
  injection hV2 with e1 _ e2
  subst e1 e2
  rcases hcs with ⟨hm, _⟩ | ⟨x', Ax, d, hm, c1, c2, hd, hk, hy⟩
  · rw [hx] at hm; cases hm
  have f0 := h.own.frozenAt (i * 2)
  have f1 := h.own.frozenAt (i * 2 + 1)
  obtain ⟨hr1, hc1⟩ := h.set hi false (.slice none 0 0) none (fun _ h => h) h.sb (.inl ⟨rfl, rfl, rfl⟩)
  have HR1 := Lib.hid hr1
  have HC1 := Lib.hid (show Ch (fun k => k = rb ∨ k = g) w _ from hc1.trans (Ch.refl (fun _ => False) _) (fun j e => .inr e) (fun _ h => h.elim))
  have hml : (M.set i none).length = M.length := List.length_set
  obtain ⟨n, hn⟩ : ∃ n, M.length = n := ⟨_, rfl⟩
  rw [hn] at hml c0 HR1 hl hi hi1 hiz
  suffices hsf : Calls Tryd.prog 20 #[.pointer (some ⟨rb, 0, none⟩), .int .i64 (i : Int)] w fun e w' => e = .returned (.int .i64 0) ∧ (∃ V' vs', RhR w' S rb V' vs' ((M.set i none).take (lastN (M.set i none)))) ∧ Ch (fun k => k = rb ∨ k = g) w w' from
    hsf.mono fun e w' ⟨p1, p2, p3⟩ => ⟨p1, p2, p3.trans (Ch.refl (fun _ => False) _) (fun j e => e.imp id fun e => by rw [e]; rfl) (fun _ h => h.elim)⟩
  obtain ⟨M2, hM2⟩ : ∃ M2, M.set i none = M2 := ⟨_, rfl⟩
  obtain ⟨vs2, hvs2⟩ : ∃ vs2, vs.set i (false, Value.slice none 0 0) = vs2 := ⟨_, rfl⟩
  rw [hM2] at HR1 hml ⊢
  rw [hvs2] at HR1
  have HML := Lib.hid hml
  have HVL := Lib.hid (show vs2.length = n by rw [← hvs2, List.length_set, h.len, hn])
  have HN1 := Lib.hid (show lastN M2 ≤ n by have := lastN_le M2; omega)
  clear h hy hx hd hk hm hr1 hc1 hml hn hM2 hvs2
  go_enter Tryd.func20, Tryd.ntmps20
  go_wp2
  generalize (w.setCell ⟨g, i * 2, none⟩ (.bool false)).setCell ⟨g, i * 2 + 1, none⟩ (.slice none 0 0) = w1 at *
  go_loopg [] n (fun k wr => ∃ n', n' = k ∧ n' ≤ n ∧ lastN M2 ≤ n' ∧ RhR wr S rb (.slice (some ⟨g, 0, none⟩) n' c) (vs2.take n') (M2.take n') ∧ Ch (fun k => k = rb ∨ k = g) w wr)
  case atStart => exact ⟨n, rfl, Nat.le_refl _, HN1.out, by rw [List.take_of_length_le (by rw [HVL.out]; exact Nat.le_refl _), List.take_of_length_le (by rw [HML.out]; exact Nat.le_refl _)]; exact HR1.out, HC1.out⟩
  case round =>
    obtain ⟨n', rfl, hle, hlast, hr2, hc2⟩ := hrel
    have HR2 := Lib.hid hr2
    have HC2 := Lib.hid hc2
    have HLA := Lib.hid hlast
    have b0 : wr.cell? ⟨rb, 0, none⟩ = some (.slice (some ⟨g, 0, none⟩) n' c) := hr2.box.cell 0
    have bf : wr.frozen? ⟨rb, 0, none⟩ = false := hr2.box.frozen 0
    have hl2 : (M2.take n').length = n' := by rw [List.length_take, HML.out]; omega
    have HL2 := Lib.hid hl2
    clear hlast hc2 c0 c1 c2 f0 f1 HR1 HC1 hi1 hi2 hi0 hiz
    by_cases h0 : n' = 0
    · have hd0 : decide (0 < n') = false := by simp; omega
      have HZ := Lib.hid h0
      clear h0 hr2 hl2
      go_wp2
      go_quiet (fail)
      go_wp2
      go_ret
      have hN : lastN M2 = n' := by have := HLA.out; have := HZ.out; omega
      have hbq := below_drewN (Below.refl wr.heap.size wr) nq
      exact ⟨rfl, ⟨_, _, by rw [hN]; exact HR2.out.later hbq⟩, HC2.out.trans (Ch.of_below hbq) (fun _ h => h) (fun _ h => h)⟩
    · obtain ⟨m, hm⟩ : ∃ m, n' = m + 1 := ⟨n' - 1, by omega⟩
      have hd0 : decide (0 < n') = true := by simp; omega
      have hw : IntKind.i64.wrap ((n' : Int) - 1) = (m : Int) := by rw [IntKind.wrap_i64]; omega
      have hm0 : (0 : Int) ≤ (m : Int) := by omega
      have hm1 : (m : Int) < (n' : Int) := by omega
      have hcap : n' ≤ c := by
        rcases hr2.own.2 with ⟨hv, h1⟩ | ⟨g', cap', cur, hv, _, _, hc, _⟩
        · injection hv with e1 e2 e3; cases e1
        · injection hv with e1 e2 e3; omega
      have hcz : (m : Int) ≤ (c : Int) := by omega
      obtain ⟨g3, c3, hV3, hg3, hcs3⟩ := hr2.get (i := m) (by rw [hl2]; omega)
      injection hV3 with e1 e2 e3
      clear e2
      injection e1 with e1
      injection e1 with e1
      subst e1 e3
      have HM1 := Lib.hid hm
      rcases hcs3 with ⟨hmn, c1, -⟩ | ⟨x3, A3, d3, hmn, c1, -⟩
      · have HP := Lib.hid (show ∀ W : World, RhR W S rb (.slice (some ⟨g, 0, none⟩) n' c) (vs2.take n') (M2.take n') → RhR (W.setCell ⟨rb, 0, none⟩ (.slice (some ⟨g, 0, none⟩) m c)) S rb (.slice (some ⟨g, 0, none⟩) m c) (vs2.take m) (M2.take m) ∧ Ch (fun k => k = rb) W (W.setCell ⟨rb, 0, none⟩ (.slice (some ⟨g, 0, none⟩) m c)) from
          fun W hW => RhR.pop (by rw [hm] at hW; exact hW) (by rw [HML.out]; omega) (by rw [HML.out, HVL.out]))
        have HST := Lib.hid (show lastN M2 ≤ m from lastN_step (by have := HLA.out; omega) (take_get hmn))
        clear h0 hr2 hl2 hmn hm hcap
        go_wp2
        go_quiet (fail)
        have HBQ := Lib.hid (below_drewN (Below.refl wr.heap.size wr) nq)
        have HR5 := Lib.hid (HR2.out.later HBQ.out)
        have HC5 := Lib.hid (HC2.out.trans (Ch.of_below HBQ.out) (fun _ h => h) (fun _ h => h))
        clear b0 bf c1 HBQ
        go_wp2
        generalize wr.drewN nq = w5 at *
        have b0 : w5.cell? ⟨rb, 0, none⟩ = some (.slice (some ⟨g, 0, none⟩) n' c) := HR5.out.box.cell 0
        go_still_tail 14, (by kernel_rfl)
        change wpList _ _ _ _ _ w5.drew
        have b1 : w5.drew.cell? ⟨rb, 0, none⟩ = some (.slice (some ⟨g, 0, none⟩) n' c) := HR5.out.box.cell 0
        have bf : w5.drew.frozen? ⟨rb, 0, none⟩ = false := HR5.out.box.frozen 0
        have HR6 := Lib.hid (show RhR w5.drew _ _ _ _ _ from HR5.out.later ((Below.refl w5.heap.size w5).drew))
        have HC6 := Lib.hid (HC5.out.trans (Ch.of_below ((Below.refl w5.heap.size w5).drew)) (fun _ h => h) (fun _ h => h))
        clear b0
        generalize w5.drew = w6 at *
        go_wp2
        generalize hw7 : w6.setCell ⟨rb, 0, none⟩ (.slice (some ⟨g, 0, none⟩) m c) = w7 at *
        have HP7 := HP.out w6 HR6.out
        rw [hw7] at HP7
        go_roundg m
        case measure => have := HM1.out; omega
        case rel => exact ⟨m, rfl, by have := HM1.out; omega, HST.out, HP7.1, HC6.out.trans HP7.2 (fun _ h => h) (fun _ h => .inl h)⟩
      · have HST := Lib.hid (show m < lastN M2 from lastN_lt (x := x3) (take_get hmn))
        clear h0 hr2 hl2 hmn hm hcap
        go_wp2
        go_quiet (fail)
        go_wp2
        go_ret
        have hN : lastN M2 = n' := by have := HLA.out; have := HST.out; have := HM1.out; omega
        have hbq := below_drewN (Below.refl wr.heap.size wr) nq
        exact ⟨rfl, ⟨_, _, by rw [hN]; exact HR2.out.later hbq⟩, HC2.out.trans (Ch.of_below hbq) (fun _ h => h) (fun _ h => h)⟩
end
end Go.Proofs.YtpajimkebnfneaaDoor.X5
