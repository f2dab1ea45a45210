/- slices.DeleteFunc at rows of extents. -/
import Derived.Test.YtcgapkepbnbabaaDoorKf
import Derived.Laws.IdiomCopy
namespace Go.Proofs.YtcgapkepbnbabaaDoor.X5
set_option linter.unusedVariables false
set_option linter.unusedSimpArgs false
open Go.RowKit Wd Ty9

theorem cl_set {xs : List Xt} {i : Nat} (hi : i < xs.length) (x : Xt) : ∀ (j : Nat) (u : Value), (cl (xs.set i x))[j]? = some u → (j = i * 2 ∧ u = .int .i64 x.1) ∨ (j = i * 2 + 1 ∧ u = .int .i64 x.2) ∨ (j ≠ i * 2 ∧ j ≠ i * 2 + 1 ∧ (cl xs)[j]? = some u) := by
  intro j u hu
  obtain ⟨k, hk, he⟩ := cl_at hu
  rw [List.length_set] at hk
  by_cases hki : k = i
  · subst hki
    rcases he with ⟨rfl, rfl⟩ | ⟨rfl, rfl⟩ <;> simp
  · have e : (xs.set i x)[k]'(by rw [List.length_set]; exact hk) = xs[k] := by rw [List.getElem_set, if_neg (fun h => hki h.symm)]
    obtain ⟨g1, g2⟩ := cl_get xs k hk
    rcases he with ⟨rfl, rfl⟩ | ⟨rfl, rfl⟩
    · rw [e]; exact .inr (.inr ⟨by omega, by omega, g1⟩)
    · rw [e]; exact .inr (.inr ⟨by omega, by omega, g2⟩)
theorem frozen_set (w : World) (a b : Addr) (v : Value) : (w.setCell a v).frozen? b = w.frozen? b := by
  obtain ⟨ab, ao, sq⟩ := a
  rcases sq with _ | sq
  · simp
  · simp only [World.setCell, World.frozen?, Array.getElem?_modify]
    by_cases hk : ab = b.block
    · simp only [hk, if_true]
      cases hb : w.heap[b.block]? with
      | none => rfl
      | some o => cases o <;> simp
    · simp [hk]
theorem cell_ne (w : World) (b o q : Nat) (v : Value) (h : o ≠ q) : (w.setCell ⟨b, o, none⟩ v).cell? ⟨b, q, none⟩ = w.cell? ⟨b, q, none⟩ :=
  World.cell?_setCell_other w _ _ _ (fun e => h (by injection e))
theorem Ex.set {w : World} {lo hi n b o : Nat} {xs : List Xt} (h : Ex w lo hi (some ⟨b, o, none⟩) n xs) {i : Nat} (hi2 : i < xs.length) (x : Xt) :
    Ex ((w.setCell ⟨b, o + i * 2, none⟩ (.int .i64 x.1)).setCell ⟨b, o + i * 2 + 1, none⟩ (.int .i64 x.2)) lo hi (some ⟨b, o, none⟩) n (xs.set i x) := by
  refine ⟨by rw [List.length_set]; exact h.len, fun hn => ?_⟩
  obtain ⟨b', o', e, h1, h2, h3⟩ := h.at_ hn
  cases e
  obtain ⟨g1, g2⟩ := cl_get xs i hi2
  have q1 : (w.cell? ⟨b, o + i * 2, none⟩).isSome = true := by rw [h3 _ _ g1]; rfl
  have q2 : (w.cell? ⟨b, o + (i * 2 + 1), none⟩).isSome = true := by rw [h3 _ _ g2]; rfl
  refine ⟨b, o, rfl, h1, h2, fun j u hu => ?_⟩
  rcases cl_set hi2 x j u hu with ⟨rfl, rfl⟩ | ⟨rfl, rfl⟩ | ⟨n1, n2, hu⟩
  · rw [cell_ne _ _ _ _ _ (by omega)]
    exact World.cell?_setCell_same' _ _ _ q1
  · rw [← Nat.add_assoc]
    refine World.cell?_setCell_same' _ _ _ ?_
    rw [cell_ne _ _ _ _ _ (by omega)]
    exact q2
  · rw [cell_ne _ _ _ _ _ (by omega), cell_ne _ _ _ _ _ (by omega)]
    exact h3 j u hu
theorem Thaw.set {w : World} {A : Option Addr} {n : Nat} (h : Thaw w A n) (p : Addr) (v : Value) : Thaw (w.setCell p v) A n := fun hn b o e j => (frozen_set w p _ v).trans (h hn b o e j)
theorem _root_.Go.Proofs.YtcgapkepbnbabaaDoor.Ty9.Ch.set {P : Nat → Prop} {w w1 : World} (h : Ch P w w1) (p : Addr) (v : Value) (hP : P p.block) : Ch P w (w1.setCell p v) :=
  ⟨h.os, h.tape, h.output, by have := h.size; simpa [World.setCell] using this, fun k hk hn => (Below.heap_setCell _ _ _ _ (fun e => hn (by rw [e]; exact hP))).trans (h.block k hk hn)⟩
theorem _root_.Go.Proofs.YtcgapkepbnbabaaDoor.Ty9.Ch.more {P : Nat → Prop} {w w1 w2 : World} (h : Ch P w w1) (hb : Below w1.heap.size w1 w2) : Ch P w w2 := h.trans (Ch.of_below (P := P) hb) (fun _ h => h) (fun _ h => h)

/-- clear at extents. -/
theorem run_clear2 (w : World) (t e ty : TypeId) (z : Value) (ht : Tryd.prog.underlying t = some (.slice e)) (hv : ∀ w, (zeroValue e).run Tryd.prog w = .ok z w) (hz : z.cells = #[.int .i64 0, .int .i64 0]) (b o n c : Nat) (hn : 0 < n)
    (hc : ∀ j, j < n * 2 → (w.cell? ⟨b, o + j, none⟩).isSome = true) (hf : ∀ j, w.frozen? ⟨b, j, none⟩ = false) :
    (Builtin.clear_ #[t] ty #[.slice (some ⟨b, o, none⟩) n c]).run Tryd.prog w = .ok (.tuple #[]) (w.setCells b o (List.replicate (n * 2) (.int .i64 0))) := by
  have hzc : (Builtin.zeroCells z.cells n).toList = List.replicate (n * 2) (.int .i64 0) := by
    rw [hz]
    simp [Builtin.zeroCells]
    apply List.ext_getElem
    · simp
    · intro i h1 h2
      simp
      rcases Nat.mod_two_eq_zero_or_one i with h | h <;> simp [h]
  have hst := run_storeCells_cells (P := Tryd.prog) b o (List.replicate (n * 2) (.int .i64 0)) 0 w (by simpa using hc) (by intro j hj; exact hf _) (by intro v hv'; rw [List.eq_of_mem_replicate hv']; rfl)
  simp only [Nat.add_zero] at hst
  obtain ⟨m, rfl⟩ : ∃ m, n = m + 1 := ⟨n - 1, by omega⟩
  simp [Builtin.clear_, run_underlying ht, hv, hzc, hst]

theorem filter_skip {p : Xt → Bool} {xs : List Xt} {j : Nat} (hj : j < xs.length) (hp : p xs[j] = true) : (xs.take (j + 1)).filter (fun x => !p x) = (xs.take j).filter fun x => !p x := by
  rw [List.take_add_one, List.getElem?_eq_getElem hj, Option.toList_some, List.filter_append]
  simp [hp]
theorem filter_keep {p : Xt → Bool} {xs : List Xt} {j : Nat} (hj : j < xs.length) (hp : p xs[j] = false) : (xs.take (j + 1)).filter (fun x => !p x) = ((xs.take j).filter fun x => !p x) ++ [xs[j]] := by
  rw [List.take_add_one, List.getElem?_eq_getElem hj, Option.toList_some, List.filter_append]
  simp [hp]

set_option maxHeartbeats 4000000 in
set_option maxRecDepth 100000 in
theorem delete_any (p : Xt → Bool) (g : Nat) (hg : Says g #[] p) (eg : ∀ args w, (callFunc g args).run Tryd.prog w = .ok (.enter g args) w) (A : Option Addr) (n C lo hi : Nat) (xs : List Xt) (w : World) (hn : n ≤ 140737488355328) (hC : n ≤ C) (h : Ex w lo hi A n xs) (ht : Thaw w A n) (hhi : hi ≤ w.heap.size) :
    Calls Tryd.prog 41 #[.slice A n C, .func (.func g) #[] #[]] w fun e w' => ∃ m, m ≤ C ∧ e = .returned (.slice A m C) ∧ Ex w' lo hi A m (xs.filter fun x => !p x) ∧ Thaw w' A m ∧ Ch (fun j => lo ≤ j ∧ j < hi) w w' := by
  rcases Nat.eq_zero_or_pos n with rfl | h0
  · obtain rfl : xs = [] := List.eq_nil_of_length_eq_zero h.len
    exact (delete0 A C _ w).mono fun e w' ⟨h1, h2⟩ => ⟨0, hC, h1, Ex.nil _ _ _ _, fun h => absurd h (Nat.lt_irrefl _), Ch.of_below h2⟩
  obtain ⟨b, o, rfl, hb1, hb2', hc⟩ := h.at_ h0
  have hl := h.len
  have HX := Lib.hid h
  have HT := Lib.hid ht
  have HG := Lib.hid hg
  have HI := Lib.hid (index_any p g #[] hg eg (some ⟨b, o, none⟩) n C lo hi xs w hn h hhi)
  clear h ht hg hc
  go_enter Tryd.func41, Tryd.ntmps41
  go_wp2_with (go_at_call 59; refine HI.out.mono ?_; rintro _ w2 ⟨⟨rfl, hno⟩ | ⟨k, hk, rfl, hp, hno⟩, hb2⟩)
  · go_ret
    refine ⟨n, hC, rfl, ?_, ?_, Ch.of_below hb2⟩
    · rw [List.filter_eq_self.mpr (fun x hx => by simp [hno x hx])]
      exact HX.out.later hb2 hhi
    · exact fun hn b' o' e j => by cases e; exact (hb2.frozen (p := ⟨b, j, none⟩) (Nat.lt_of_lt_of_le hb2' hhi)).trans (HT.out hn b o rfl j)
  · have HP := Lib.hid hp
    have HNO := Lib.hid hno
    have HK := Lib.hid hk
    have HB := Lib.hid hb2
    clear hp hno hb2 HI
    have k63 : wrap64 ((k : Int) + 1) = (k : Int) + 1 := by unfold wrap64; omega
    have kne : ((k : Int) == -1) = false := beq_eq_false_iff_ne.2 (by omega)
    go_wp2
    simp only [kne]
    clear kne
    go_loopw [5, 6] (fun i j wr => ∃ (i' j' : Nat) (ys : List Xt), i = .int .i64 i' ∧ j = .int .i64 j' ∧ i' < j' ∧ j' ≤ n ∧ Ex wr lo hi (some ⟨b, o, none⟩) n ys ∧ Thaw wr (some ⟨b, o, none⟩) n ∧ Ch (fun j => lo ≤ j ∧ j < hi) w wr ∧
      ys.take i' = (xs.take j').filter (fun x => !p x) ∧ ys.drop j' = xs.drop j') (fun _ j _ => n - (intOf j).toNat)
    case atStart =>
      refine ⟨k, k + 1, xs, rfl, by go_num, by omega, by omega, HX.out.later HB.out hhi, fun hn b' o' e j => by cases e; exact (HB.out.frozen (p := ⟨b, j, none⟩) (Nat.lt_of_lt_of_le hb2' hhi)).trans (HT.out hn b o rfl j), Ch.of_below HB.out, ?_, rfl⟩
      rw [filter_skip HK.out HP.out, List.filter_eq_self.mpr (fun x hx => by simp [HNO.out x hx])]
    case round =>
      obtain ⟨i, j, ys, rfl, rfl, hij, hjn, hex, hth, hch, ht1, ht2⟩ := hrel
      have HEX := Lib.hid hex
      have HTH := Lib.hid hth
      have HCH := Lib.hid hch
      have HT1 := Lib.hid ht1
      have HT2 := Lib.hid ht2
      have hyl := hex.len
      clear hth hch ht1 ht2
      have hbw : b < wr.heap.size := Nat.lt_of_lt_of_le (Nat.lt_of_lt_of_le hb2' hhi) HCH.out.size
      by_cases hlt : j < n
      · have hjy : j < ys.length := by omega
        have hyj : ys[j] = xs[j] := by
          have h1 := congrArg (fun l => l[0]?) HT2.out
          simp only [List.getElem?_drop, Nat.add_zero] at h1
          rw [List.getElem?_eq_getElem hjy, List.getElem?_eq_getElem (by omega)] at h1
          exact Option.some.inj h1
        obtain ⟨c0, c1⟩ := hex.get rfl hjy
        rw [hyj] at c0 c1
        obtain ⟨d0, d1⟩ := hex.get rfl (i := i) (by omega)
        generalize hx : xs[j] = x at c0 c1
        have HXJ := Lib.hid hx
        clear hx hyj hex
        have fz0 := HTH.out (by omega) b o rfl (o + i * 2)
        have fz1 := HTH.out (by omega) b o rfl (o + i * 2 + 1)
        have hltz : (j : Int) < (n : Int) := by omega
        have hiz : (i : Int) < (n : Int) := by omega
        cases hq : p x with
        | true =>
          have HQ := Lib.hid hq
          clear hq
          go_wp2_with (go_at_fn g; refine (HG.out x _).mono ?_; rintro _ w3 ⟨he, hb3⟩; rw [HQ.out] at he; subst he)
          have HB3 := Lib.hid (below_more (below_new wr _) hb3)
          clear hb3
          go_roundw
          case rel =>
            refine ⟨i, j + 1, ys, rfl, by go_num, by omega, by omega, HEX.out.later HB3.out (by have := HCH.out.size; omega), fun hn b' o' e j => by cases e; exact (HB3.out.frozen (p := ⟨b, j, none⟩) hbw).trans (HTH.out hn b o rfl j), HCH.out.more HB3.out, ?_, ?_⟩
            · rw [filter_skip (by omega) (by rw [HXJ.out]; exact HQ.out)]; exact HT1.out
            · rw [← List.drop_drop, ← List.drop_drop, HT2.out]
          case measure => simp [intOf]; omega
        | false =>
          have HQ := Lib.hid hq
          clear hq
          go_wp2_with (go_at_fn g; refine (HG.out x _).mono ?_; rintro _ w3 ⟨he, hb3⟩; rw [HQ.out] at he; subst he; have HB3 := Lib.hid (below_more (below_new wr _) hb3); have hk3 := fun q : Nat => HB3.out.cell (p := ⟨b, q, none⟩) hbw; have hz3 := fun q : Nat => HB3.out.frozen (p := ⟨b, q, none⟩) hbw; have e0 : w3.cell? ⟨wr.heap.size, 0, none⟩ = some (.int .i64 x.1) := ((Bx.new wr 49 #[.int .i64 x.1, .int .i64 x.2]).later hb3 (by simp)).cell 0; have e1 : w3.cell? ⟨wr.heap.size, 1, none⟩ = some (.int .i64 x.2) := ((Bx.new wr 49 #[.int .i64 x.1, .int .i64 x.2]).later hb3 (by simp)).cell 1; rw [← hk3] at d0 d1; rw [← hz3] at fz0 fz1; clear hb3 hk3 hz3 c0 c1)
          go_roundw
          case rel =>
            have hex3 := HEX.out.later HB3.out (by have := HCH.out.size; omega)
            refine ⟨i + 1, j + 1, ys.set i x, by go_num, by go_num, by omega, by omega, hex3.set (by omega) x, (show Thaw w3 (some ⟨b, o, none⟩) n from fun hn b' o' e j => by cases e; exact (HB3.out.frozen (p := ⟨b, j, none⟩) hbw).trans (HTH.out hn b o rfl j)).set _ _ |>.set _ _, ((HCH.out.more HB3.out).set _ _ ⟨hb1, hb2'⟩).set _ _ ⟨hb1, hb2'⟩, ?_, ?_⟩
            · rw [filter_keep (by omega) (by rw [HXJ.out]; exact HQ.out), ← HT1.out, HXJ.out, List.take_add_one, List.getElem?_set_self (by omega), List.take_set_of_le (Nat.le_refl _)]
              rfl
            · rw [List.drop_set_of_lt (by omega), ← List.drop_drop, ← List.drop_drop, HT2.out]
          case measure => simp [intOf]; omega
      · obtain rfl : j = n := by omega
        have hcl : ∀ ty, (Builtin.clear_ #[34] ty #[.slice (some ⟨b, o + i * 2, none⟩) (j - i) (C - i)]).run Tryd.prog wr = .ok (.tuple #[]) (wr.setCells b (o + i * 2) (List.replicate ((j - i) * 2) (.int .i64 0))) :=
          fun ty => run_clear2 wr _ _ ty _ Tryd.underlying34 Tryd.zeroValue49 rfl b (o + i * 2) _ _ (by omega) (fun q hq => by
            obtain ⟨b', o', e, _, _, h3⟩ := HEX.out.at_ h0
            cases e
            have h4 : i * 2 + q < (cl ys).length := by rw [cl_len]; omega
            rw [Nat.add_assoc, h3 _ _ (List.getElem?_eq_getElem h4)]
            rfl) (HTH.out h0 b o rfl)
        have hltz : ¬ (j : Int) < (j : Int) := by omega
        clear hex
        go_wp2
        go_ret
        have hyi : (xs.filter fun x => !p x) = ys.take i := by rw [HT1.out, List.take_of_length_le (by omega)]
        obtain ⟨q1, q2, q3, q4, q5⟩ := setCells_keep b (List.replicate ((j - i) * 2) (.int .i64 0)) (o + i * 2) wr
        refine ⟨i, by omega, rfl, ⟨by rw [hyi, List.length_take]; omega, fun hi0 => ⟨b, o, rfl, hb1, hb2', fun q u hu => ?_⟩⟩, fun hi0 b' o' e q => ?_, ⟨q2.trans HCH.out.os, q3.trans HCH.out.tape, q4.trans HCH.out.output, by rw [q1]; exact HCH.out.size, fun q hq hnq => (q5 q (fun e => hnq (by rw [e]; exact ⟨hb1, hb2'⟩))).trans (HCH.out.block q hq hnq)⟩⟩
        · rw [hyi] at hu
          obtain ⟨r, hr, he⟩ := cl_at hu
          rw [List.length_take] at hr
          obtain ⟨b', o', e, _, _, h3⟩ := HEX.out.at_ h0
          cases e
          obtain ⟨g1, g2⟩ := cl_get ys r (by omega)
          rw [List.getElem_take] at he
          rw [World.cell?_setCells_out b _ _ wr ⟨b, o + q, none⟩ (fun _ _ => .inl (by show o + q < o + i * 2; omega))]
          rcases he with ⟨rfl, rfl⟩ | ⟨rfl, rfl⟩
          · exact h3 _ _ g1
          · exact h3 _ _ g2
        · cases e
          rw [World.frozen?_setCells]
          exact HTH.out h0 b o rfl q
end Go.Proofs.YtcgapkepbnbabaaDoor.X5
