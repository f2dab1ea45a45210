/- The law's small functions: few, plain, same, lent, kept, spoil; extent.Total. -/
import Derived.Test.YtkdfafaiabidgaaDoorKi
import Derived.Laws.AppendOwnNone
namespace Go.Proofs.YtkdfafaiabidgaaDoor.X5
set_option linter.unusedVariables false
set_option linter.unusedSimpArgs false
open Go.RowKit Wd Ty9

/-- One extent more is appended, whatever the length. -/
theorem wp_app2 {t e : TypeId} (ht : Tryd.prog.underlying t = some (.slice e)) (hinf : (Tryd.prog.info? e).map (fun i => (i.zero, i.size, i.bytes)) = some (some (.agg #[.int .i64 0, .int .i64 0]), 2, 16))
    {ops : Array Oper} {rest : List Oper} {o : Oper} {a : Act} {w : World} {Q : Exit → Act → World → Prop} (hgd : o.guard = none) (s x : Operand)
    (ho : o.op = .call { callee := .builtin .append, args := #[s, x], argTypes := #[t, t] })
    (w0 : World) (V : Value) (ou : List Xt) (y : Xt) (g : Nat) (hs : a.eval s = V) (hx : a.eval x = .slice (some ⟨g, 0, none⟩) 1 1) (h : Ow e w0 V ou w) (hb : Bx w g e #[.int .i64 y.1, .int .i64 y.2]) (hl : (ou.length + 1) * 16 ≤ 140737488355328)
    (hK : ∀ V' w', Ow e w0 V' (ou ++ [y]) w' → wpList Tryd.prog ops Q rest (a.put o.dst V') w') :
    wpList Tryd.prog ops Q (o :: rest) a w := by
  obtain ⟨i0, hi0, hz, hs0, hbt⟩ := info_parts hinf
  refine wpList_append_own _ hgd s x t ho w0.heap.size e i0 _ 2 16 ht hi0 hz hs0 hbt (by rfl) (by decide) V ou.length (cl ou) hs h.own ⟨g, 0, none⟩ 1 1 [.int .i64 y.1, .int .i64 y.2] hx (by rfl) (World.news_of_block hb) (by simp [Value.oneCell']) (by unfold maxLen; omega) hl h.be.size ?_
  intro V2 w4 hown2 hgr2 _
  refine hK V2 w4 (h.grown hgr2 ?_)
  rw [List.length_append, cl_app]
  exact hown2
/-- The same as a step of a region that draws. -/
theorem step_app1 {t e : TypeId} (ht : Tryd.prog.underlying t = some (.slice e)) (hinf : (Tryd.prog.info? e).map (fun i => (i.zero, i.size, i.bytes)) = some (some (.agg #[.int .i64 0, .int .i64 0]), 2, 16))
    {ops : Array Oper} {o : Oper} {a : Act} {w : World} {K : Act → World → Prop} {Q : Exit → Act → World → Prop} {E : Prop} (hgd : o.guard = none) (s x : Operand)
    (ho : o.op = .call { callee := .builtin .append, args := #[s, x], argTypes := #[t, t] })
    (w0 : World) (V : Value) (ou : List Xt) (y : Xt) (g : Nat) (hs : a.eval s = V) (hx : a.eval x = .slice (some ⟨g, 0, none⟩) 1 1) (h : Ow e w0 V ou w) (hb : Bx w g e #[.int .i64 y.1, .int .i64 y.2]) (hl : (ou.length + 1) * 16 ≤ 140737488355328)
    (hK : ∀ V' w', Ow e w0 V' (ou ++ [y]) w' → K (a.put o.dst V') w') :
    if Region.wanted o (yielded ops a.tmps) = true then Oper.wp Tryd.prog o a w K Q else E := by
  have hw : Region.wanted o (yielded ops a.tmps) = true := by simp [Region.wanted, hgd]
  rw [if_pos hw]
  obtain ⟨i0, hi0, hz, hs0, hbt⟩ := info_parts hinf
  refine wp_append_own w s x t ho w0.heap.size e i0 _ 2 16 ht hi0 hz hs0 hbt (by rfl) (by decide) V ou.length (cl ou) hs h.own ⟨g, 0, none⟩ 1 1 [.int .i64 y.1, .int .i64 y.2] hx (by rfl) (World.news_of_block hb) (by simp [Value.oneCell']) (by unfold maxLen; omega) hl h.be.size ?_
  intro V2 w4 hown2 hgr2 _
  refine hK V2 w4 (h.grown hgr2 ?_)
  rw [List.length_append, cl_app]
  exact hown2
/-- A row is appended. -/
theorem wp_appN {t e : TypeId} (ht : Tryd.prog.underlying t = some (.slice e)) (hinf : (Tryd.prog.info? e).map (fun i => (i.zero, i.size, i.bytes)) = some (some (.agg #[.int .i64 0, .int .i64 0]), 2, 16))
    {ops : Array Oper} {rest : List Oper} {o : Oper} {a : Act} {w : World} {Q : Exit → Act → World → Prop} (hgd : o.guard = none) (s x : Operand)
    (ho : o.op = .call { callee := .builtin .append, args := #[s, x], argTypes := #[t, t] })
    (w0 : World) (V : Value) (ou ys : List Xt) (A : Option Addr) (m c lo hi : Nat) (hs : a.eval s = V) (hx : a.eval x = .slice A m c) (hA : A = none → c = 0) (h : Ow e w0 V ou w) (hb : Ex w lo hi A m ys) (hl : (ou.length + m) * 16 ≤ 140737488355328)
    (hK : ∀ V' w', Ow e w0 V' (ou ++ ys) w' → wpList Tryd.prog ops Q rest (a.put o.dst V') w') :
    wpList Tryd.prog ops Q (o :: rest) a w := by
  obtain ⟨i0, hi0, hz, hs0, hbt⟩ := info_parts hinf
  rcases A with _ | ad
  · obtain rfl := hA rfl
    have hm : m = 0 := by
      rcases Nat.eq_zero_or_pos m with h0 | h0
      · exact h0
      · obtain ⟨b, o, e, _⟩ := hb.at_ h0; cases e
    subst hm
    obtain rfl : ys = [] := List.eq_nil_of_length_eq_zero hb.len
    refine wpList_append_own_none hgd s x t ho w0.heap.size e i0 2 ht (by rw [hi0]) V ou.length (cl ou) hs h.own hx ?_
    have := hK V w (by rw [List.append_nil]; exact h)
    exact this
  · refine wpList_append_own _ hgd s x t ho w0.heap.size e i0 _ 2 16 ht hi0 hz hs0 hbt (by rfl) (by decide) V ou.length (cl ou) hs h.own ad m c (cl ys) hx (by rw [cl_len, hb.len]) ?_ (cl_one ys) (by unfold maxLen; omega) hl h.be.size ?_
    · intro j u hu
      obtain ⟨i, hi, _⟩ := cl_at hu
      obtain ⟨b, o, e, _, _, h3⟩ := hb.at_ (by have := hb.len; omega)
      cases e
      have hadd : (⟨b, o, none⟩ : Addr).add j = ⟨b, o + j, none⟩ := by unfold Addr.add; split <;> simp_all
      rw [hadd]
      exact h3 j u hu
    · intro V2 w4 hown2 hgr2 _
      refine hK V2 w4 (h.grown hgr2 ?_)
      rw [List.length_append, cl_app, hb.len]
      exact hown2

set_option maxHeartbeats 1000000 in
theorem few_any (A : Option Addr) (n C : Nat) (w : World) (hn : n ≤ 140737488355328) : Calls Tryd.prog 5 #[.slice A n C] w fun e w' => e = .returned (.bool (decide (n ≤ 300 ∨ 65536 < n))) ∧ Below w.heap.size w w' := by
  have hd : (decide (n ≤ 300 ∨ 65536 < n) = true) ↔ (n ≤ 300 ∨ 65536 < n) := by rw [decide_eq_true_eq]
  have HD := Lib.hid hd
  generalize decide (n ≤ 300 ∨ 65536 < n) = r at *
  clear hd
  by_cases h1 : n ≤ 300
  · go_enter Tryd.func5, Tryd.ntmps5
    go_wp2
    go_ret
    exact ⟨congrArg (fun b => Ending.returned (Value.bool b)) (Bool.eq_iff_iff.mpr (by rw [HD.out]; simp; omega)), Below.refl _ _⟩
  · by_cases h2 : 65536 < n
    all_goals
      go_enter Tryd.func5, Tryd.ntmps5
      go_wp2
      go_ret
      exact ⟨congrArg (fun b => Ending.returned (Value.bool b)) (Bool.eq_iff_iff.mpr (by rw [HD.out]; simp; omega)), Below.refl _ _⟩

set_option maxHeartbeats 4000000 in
set_option maxRecDepth 100000 in
theorem plain_any (A : Option Addr) (n C lo hi : Nat) (xs : List Xt) (w : World) (hn : n * 16 ≤ 140737488355328) (h : Ex w lo hi A n xs) (hhi : hi ≤ w.heap.size) :
    Calls Tryd.prog 10 #[.slice A n C] w fun e w' => ∃ V, e = .returned V ∧ Ow 54 w V xs w' := by
  have hl := h.len
  have HX := Lib.hid h
  clear h
  go_enter Tryd.func10, Tryd.ntmps10
  go_wp2
  go_loopw [3, 4] (fun v i wr => ∃ (k : Nat), i = .int .i64 k ∧ k ≤ n ∧ Ow 54 w v (xs.take k) wr) (fun _ i _ => n - (intOf i).toNat)
  case atStart => exact ⟨0, rfl, Nat.zero_le _, Ow.nil _ _⟩
  case round =>
    obtain ⟨k, rfl, hk, how⟩ := hrel
    have htl : (xs.take k).length = k := by rw [List.length_take]; omega
    obtain ⟨Af, Cf, hV⟩ := own_form how.own
    rw [htl] at hV
    subst hV
    have HOW := Lib.hid how
    clear how
    by_cases hlt : k < n
    · have hltz : (k : Int) < (n : Int) := by omega
      obtain ⟨b, o, rfl, hb1, hb2, -⟩ := HX.out.at_ (by omega)
      obtain ⟨c0, c1⟩ := HX.out.get rfl (i := k) (by omega)
      have hbw : b < w.heap.size := Nat.lt_of_lt_of_le hb2 hhi
      rw [← HOW.out.be.cell (p := ⟨b, o + k * 2, none⟩) hbw] at c0
      rw [← HOW.out.be.cell (p := ⟨b, o + k * 2 + 1, none⟩) hbw] at c1
      have htk : xs.take (k + 1) = xs.take k ++ [xs[k]] := by rw [List.take_add_one, List.getElem?_eq_getElem (by omega)]; rfl
      have HTK := Lib.hid htk
      have HTL := Lib.hid (show ((xs.take k).length + 1) * 16 ≤ 140737488355328 by omega)
      clear htk
      generalize xs[k] = x at c0 c1 HTK
      clear htl
      have HOD := Lib.hid (HOW.out.below (((Below.refl _ wr).drew).alloc (Nat.le_refl _) (.cells #[.int .i64 x.1, .int .i64 x.2] 54)))
      go_upto_region 5 with fail
      go_region_law (refine step_app1 Tryd.underlying32 rext_info (by rfl) (.tmp 11) (.tmp 23) (by rfl) w (.slice Af k Cf) (xs.take k) x wr.heap.size (by rfl) (by rfl) HOD.out (Bx.new wr.drew _ _) HTL.out ?_; intro V2 w4 how4; have HO4 := Lib.hid how4; clear how4)
      all_goals
        clear c0 c1
        go_wp2
        go_roundw
        (case rel => exact ⟨k + 1, by go_num, by omega, by rw [HTK.out]; exact HO4.out⟩)
        (case measure => simp [intOf]; omega)
    · obtain rfl : k = n := by omega
      have HF := Lib.hid (show Ow 54 w (.slice Af k Cf) xs wr by have h1 := HOW.out; rwa [List.take_of_length_le (by omega)] at h1)
      go_wp2
      go_ret
      exact ⟨_, rfl, HF.out⟩

/-! ### same -/
theorem take_snoc_eq {xs ys : List Xt} {k : Nat} (h1 : k < xs.length) (h2 : k < ys.length) (h : xs.take k = ys.take k) (he : xs[k] = ys[k]) : xs.take (k + 1) = ys.take (k + 1) := by
  rw [List.take_add_one, List.take_add_one, List.getElem?_eq_getElem h1, List.getElem?_eq_getElem h2, h, he]
set_option maxHeartbeats 4000000 in
set_option maxRecDepth 100000 in
theorem same_any (A B : Option Addr) (n m C D lo hi lo2 hi2 : Nat) (xs ys : List Xt) (w : World) (hn : n ≤ 140737488355328) (h : Ex w lo hi A n xs) (hhi : hi ≤ w.heap.size) (h2 : Ex w lo2 hi2 B m ys) (hhi2 : hi2 ≤ w.heap.size) :
    Calls Tryd.prog 13 #[.slice A n C, .slice B m D] w fun e w' => e = .returned (.bool (decide (xs = ys))) ∧ Below w.heap.size w w' := by
  have hl := h.len
  have hl2 := h2.len
  have HX := Lib.hid h
  have HY := Lib.hid h2
  have hd : (decide (xs = ys) = true) ↔ xs = ys := by rw [decide_eq_true_eq]
  have HD := Lib.hid hd
  generalize decide (xs = ys) = r at *
  clear h h2 hd
  by_cases hne : n = m
  · subst hne
    go_enter Tryd.func13, Tryd.ntmps13
    go_wp2
    go_loopw [5] (fun i wr => ∃ (k : Nat), i = .int .i64 k ∧ k ≤ n ∧ Below w.heap.size w wr ∧ Hid (xs.take k = ys.take k)) (fun i _ => n - (intOf i).toNat)
    case atStart => exact ⟨0, rfl, Nat.zero_le _, Below.refl _ _, Lib.hid rfl⟩
    case round =>
      obtain ⟨k, rfl, hk, hbe, HE⟩ := hrel
      have HBE := Lib.hid hbe
      clear hbe
      by_cases hlt : k < n
      · have hltz : (k : Int) < (n : Int) := by omega
        obtain ⟨b, o, rfl, hb1, hb2, -⟩ := HX.out.at_ (by omega)
        obtain ⟨b', o', rfl, hb1', hb2', -⟩ := HY.out.at_ (by omega)
        obtain ⟨c0, c1⟩ := HX.out.get rfl (i := k) (by omega)
        obtain ⟨d0, d1⟩ := HY.out.get rfl (i := k) (by omega)
        rw [← HBE.out.cell (p := ⟨b, o + k * 2, none⟩) (Nat.lt_of_lt_of_le hb2 hhi)] at c0
        rw [← HBE.out.cell (p := ⟨b, o + k * 2 + 1, none⟩) (Nat.lt_of_lt_of_le hb2 hhi)] at c1
        rw [← HBE.out.cell (p := ⟨b', o' + k * 2, none⟩) (Nat.lt_of_lt_of_le hb2' hhi2)] at d0
        rw [← HBE.out.cell (p := ⟨b', o' + k * 2 + 1, none⟩) (Nat.lt_of_lt_of_le hb2' hhi2)] at d1
        have hst : xs[k]'(by omega) = ys[k]'(by omega) → xs.take (k + 1) = ys.take (k + 1) := fun he => take_snoc_eq (by omega) (by omega) HE.out he
        have hno : xs[k]'(by omega) ≠ ys[k]'(by omega) → xs ≠ ys := fun h1 h2 => h1 (by subst h2; rfl)
        have HST := Lib.hid hst
        have HNO := Lib.hid hno
        clear hst hno
        generalize xs[k]'(by omega) = x at c0 c1 HST HNO
        generalize ys[k]'(by omega) = y at d0 d1 HST HNO
        obtain ⟨x1, x2⟩ := x
        obtain ⟨y1, y2⟩ := y
        simp only at c0 c1 d0 d1
        by_cases q1 : x1 = y1
        · subst q1
          have n1 : (x1 != x1) = false := by simp
          by_cases q2 : x2 = y2
          · subst q2
            have n2 : (x2 != x2) = false := by simp
            go_upto_region 6 with fail
            go_quiet (fail)
            have HBQ := Lib.hid (below_more HBE.out (below_drewN (Below.refl wr.heap.size wr) nq))
            generalize wr.drewN nq = wc at *
            go_wp2
            go_roundw
            case rel => exact ⟨k + 1, by go_num, by omega, HBQ.out, Lib.hid (HST.out rfl)⟩
            case measure => simp [intOf]; omega
          · have n2 : (x2 != y2) = true := by simp [bne, q2]
            have n3 : (x2 == y2) = false := beq_eq_false_iff_ne.2 q2
            have HN := Lib.hid (HNO.out (fun e => q2 (by cases e; rfl)))
            go_upto_region 6 with fail
            go_quiet (fail)
            have HBQ := Lib.hid (below_more HBE.out (below_drewN (Below.refl wr.heap.size wr) nq))
            generalize wr.drewN nq = wc at *
            go_wp2
            go_ret
            exact ⟨congrArg (fun b => Ending.returned (Value.bool b)) (Bool.eq_iff_iff.mpr (by rw [HD.out]; simp [HN.out])), HBQ.out⟩
        · have n2 : (x1 != y1) = true := by simp [bne, q1]
          have n3 : (x1 == y1) = false := beq_eq_false_iff_ne.2 q1
          have HN := Lib.hid (HNO.out (fun e => q1 (by cases e; rfl)))
          go_upto_region 6 with fail
          go_quiet (fail)
          have HBQ := Lib.hid (below_more HBE.out (below_drewN (Below.refl wr.heap.size wr) nq))
          generalize wr.drewN nq = wc at *
          go_wp2
          go_ret
          exact ⟨congrArg (fun b => Ending.returned (Value.bool b)) (Bool.eq_iff_iff.mpr (by rw [HD.out]; simp [HN.out])), HBQ.out⟩
      · obtain rfl : k = n := by omega
        have he := HE.out
        rw [List.take_of_length_le (by omega), List.take_of_length_le (by omega)] at he
        have HEE := Lib.hid he
        clear he
        go_wp2
        go_ret
        exact ⟨congrArg (fun b => Ending.returned (Value.bool b)) (Bool.eq_iff_iff.mpr (by rw [HD.out]; simp [HEE.out])), HBE.out⟩
  · have n1 : ((n : Int) != (m : Int)) = true := by simp [bne]; omega
    have n3 : ((n : Int) == (m : Int)) = false := beq_eq_false_iff_ne.2 (by omega)
    have n4 : ¬ (n : Int) = (m : Int) := by omega
    go_enter Tryd.func13, Tryd.ntmps13
    go_wp2
    go_ret
    exact ⟨congrArg (fun b => Ending.returned (Value.bool b)) (Bool.eq_iff_iff.mpr (by rw [HD.out]; simp; intro e; subst e; omega)), Below.refl _ _⟩
end Go.Proofs.YtkdfafaiabidgaaDoor.X5
