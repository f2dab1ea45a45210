/- Small functions of the laws; a row of messages is copied. -/
import Derived.Test.YtcgapkepbnbabaaDoorLj
import Derived.Test.YtcgapkepbnbabaaDoorKk
import Derived.Test.YtcgapkepbnbabaaDoorKl
import Derived.Test.YtcgapkepbnbabaaDoorKv
namespace Go.Proofs.YtcgapkepbnbabaaDoor.X5
set_option linter.unusedVariables false
set_option linter.unusedSimpArgs false
open Go.RowKit Wd Ty9

set_option maxHeartbeats 4000000 in
set_option maxRecDepth 100000 in
theorem sameBlocks_yes (A B : Option Addr) (n C D : Nat) (l : List Mg) (w : World) (hn : n ≤ 140737488355328) (h : Ms w w.heap.size A n l) (h2 : Ms w w.heap.size B n l) :
    Calls Tryd.prog 18 #[.slice A n C, .slice B n D] w fun e w' => e = .returned (.bool true) ∧ Below w.heap.size w w' := by
  have HM := Lib.hid h
  have HN := Lib.hid h2
  clear h h2
  go_enter Tryd.func18, Tryd.ntmps18
  go_wp2
  go_loopw [5] (fun i wr => ∃ (k : Nat), i = .int .i64 k ∧ k ≤ n ∧ Below w.heap.size w wr) (fun i _ => n - (intOf i).toNat)
  case atStart => exact ⟨0, rfl, Nat.zero_le _, Below.refl _ _⟩
  case round =>
    obtain ⟨k, rfl, hk, hbe⟩ := hrel
    have HBE := Lib.hid hbe
    clear hbe
    by_cases hlt : k < n
    · have hltz : (k : Int) < (n : Int) := by omega
      obtain ⟨b, o, x, Ai, ci, rfl, hb1, hx, c0, c1, hci, hmi, hyi⟩ := HM.out.get hlt
      obtain ⟨b', o', x', Bi, di, rfl, hb1', hx', d0, d1, hdi, hmi', hyi'⟩ := HN.out.get hlt
      obtain rfl : x = x' := Option.some.inj (hx.symm.trans hx')
      obtain ⟨z, bs⟩ := x
      simp only at c0 c1 d0 d1 hci hdi hmi hmi' hyi hyi'
      have hyl := hyi.len
      generalize bs.length = q at *
      have n1 : (z != z) = false := by simp
      clear hx hx' hyl
      go_upto_region 6 with fail
      obtain ⟨G, hGd⟩ : ∃ G : World → Prop, G = fun w' => Below w.heap.size w w' := ⟨_, rfl⟩
      have hG0 : G { wr with drawn := wr.drawn + 1 } := by rw [hGd]; exact (HBE.out.drew)
      have hG2 : Hid (∀ s : Wof G, Below w.heap.size w s.val) := Lib.hid (by subst hGd; exact fun s => s.is)
      have c0 : ∀ s : Wof G, s.val.cell? ⟨b, o + k * 2, none⟩ = some (.int .i64 z) := fun s => ((hG2.out s).cell (p := ⟨b, o + k * 2, none⟩) hb1).trans c0
      have c1 : ∀ s : Wof G, s.val.cell? ⟨b, o + k * 2 + 1, none⟩ = some (.slice Ai q ci) := fun s => ((hG2.out s).cell (p := ⟨b, o + k * 2 + 1, none⟩) hb1).trans c1
      have d0 : ∀ s : Wof G, s.val.cell? ⟨b', o' + k * 2, none⟩ = some (.int .i64 z) := fun s => ((hG2.out s).cell (p := ⟨b', o' + k * 2, none⟩) hb1').trans d0
      have d1 : ∀ s : Wof G, s.val.cell? ⟨b', o' + k * 2 + 1, none⟩ = some (.slice Bi q di) := fun s => ((hG2.out s).cell (p := ⟨b', o' + k * 2 + 1, none⟩) hb1').trans d1
      have hcv1 : ∀ s : Wof G, (convert 31 9 (.slice Ai q ci)).run Tryd.prog s.val = .ok (.string (strOf bs)) s.val := fun s => conv_bytes (hyi.later (hG2.out s)) ci
      have hcv2 : ∀ s : Wof G, (convert 31 9 (.slice Bi q di)).run Tryd.prog s.val = .ok (.string (strOf bs)) s.val := fun s => conv_bytes (hyi'.later (hG2.out s)) di
      generalize strOf bs = ss at *
      have zs : (ss.toList != ss.toList) = false := by simp
      have zs2 : (ss.toList == ss.toList) = true := by simp
      have hne : Nonempty (Wof G) := ⟨⟨_, hG0⟩⟩
      clear hGd hyi hyi'
      refine wp_region_kept (G := G) (by kernel_rfl) (by kernel_rfl) hG0 ?_
      clear hG0
      repeat (go_big_quiet_step ((fail)))
      refine wpQuiet_nil ?_
      rintro _ ⟨s, rfl⟩
      have HW := Lib.hid (hG2.out s)
      obtain ⟨w2, hw2⟩ := s
      change Hid (Below w.heap.size w w2) at HW
      clear hG2 c0 c1 d0 d1 hcv1 hcv2 hne
      simp only
      all_goals
        go_wp2
        go_roundw
        (case rel => exact ⟨k + 1, by go_num, by omega, HW.out⟩)
        (case measure => simp [intOf]; omega)
    · obtain rfl : k = n := by omega
      go_wp2
      go_ret
      exact ⟨rfl, HBE.out⟩

set_option maxHeartbeats 4000000 in
set_option maxRecDepth 100000 in
theorem sameMsgs_yes (A B : Option Addr) (n C D : Nat) (l : List Mg) (w : World) (hn : n ≤ 140737488355328) (h : Ms w w.heap.size A n l) (h2 : Ms w w.heap.size B n l) :
    Calls Tryd.prog 19 #[.slice A n C, .slice B n D] w fun e w' => e = .returned (.bool true) ∧ Below w.heap.size w w' := by
  have HM := Lib.hid h
  have HN := Lib.hid h2
  clear h h2
  go_enter Tryd.func19, Tryd.ntmps19
  go_wp2
  go_loopw [5] (fun i wr => ∃ (k : Nat), i = .int .i64 k ∧ k ≤ n ∧ Below w.heap.size w wr) (fun i _ => n - (intOf i).toNat)
  case atStart => exact ⟨0, rfl, Nat.zero_le _, Below.refl _ _⟩
  case round =>
    obtain ⟨k, rfl, hk, hbe⟩ := hrel
    have HBE := Lib.hid hbe
    clear hbe
    by_cases hlt : k < n
    · have hltz : (k : Int) < (n : Int) := by omega
      obtain ⟨b, o, x, Ai, ci, rfl, hb1, hx, c0, c1, hci, hmi, hyi⟩ := HM.out.get hlt
      obtain ⟨b', o', x', Bi, di, rfl, hb1', hx', d0, d1, hdi, hmi', hyi'⟩ := HN.out.get hlt
      obtain rfl : x = x' := Option.some.inj (hx.symm.trans hx')
      obtain ⟨z, bs⟩ := x
      simp only at c0 c1 d0 d1 hci hdi hmi hmi' hyi hyi'
      have hyl := hyi.len
      generalize bs.length = q at *
      have n1 : (z != z) = false := by simp
      clear hx hx' hyl
      go_upto_region 6 with fail
      obtain ⟨G, hGd⟩ : ∃ G : World → Prop, G = fun w' => Below w.heap.size w w' := ⟨_, rfl⟩
      have hG0 : G { wr with drawn := wr.drawn + 1 } := by rw [hGd]; exact (HBE.out.drew)
      have hG2 : Hid (∀ s : Wof G, Below w.heap.size w s.val) := Lib.hid (by subst hGd; exact fun s => s.is)
      have c0 : ∀ s : Wof G, s.val.cell? ⟨b, o + k * 2, none⟩ = some (.int .i64 z) := fun s => ((hG2.out s).cell (p := ⟨b, o + k * 2, none⟩) hb1).trans c0
      have c1 : ∀ s : Wof G, s.val.cell? ⟨b, o + k * 2 + 1, none⟩ = some (.slice Ai q ci) := fun s => ((hG2.out s).cell (p := ⟨b, o + k * 2 + 1, none⟩) hb1).trans c1
      have d0 : ∀ s : Wof G, s.val.cell? ⟨b', o' + k * 2, none⟩ = some (.int .i64 z) := fun s => ((hG2.out s).cell (p := ⟨b', o' + k * 2, none⟩) hb1').trans d0
      have d1 : ∀ s : Wof G, s.val.cell? ⟨b', o' + k * 2 + 1, none⟩ = some (.slice Bi q di) := fun s => ((hG2.out s).cell (p := ⟨b', o' + k * 2 + 1, none⟩) hb1').trans d1
      have hcv1 : ∀ s : Wof G, (convert 31 9 (.slice Ai q ci)).run Tryd.prog s.val = .ok (.string (strOf bs)) s.val := fun s => conv_bytes (hyi.later (hG2.out s)) ci
      have hcv2 : ∀ s : Wof G, (convert 31 9 (.slice Bi q di)).run Tryd.prog s.val = .ok (.string (strOf bs)) s.val := fun s => conv_bytes (hyi'.later (hG2.out s)) di
      generalize strOf bs = ss at *
      have zs : (ss.toList != ss.toList) = false := by simp
      have zs2 : (ss.toList == ss.toList) = true := by simp
      have hne : Nonempty (Wof G) := ⟨⟨_, hG0⟩⟩
      clear hGd hyi hyi'
      refine wp_region_kept (G := G) (by kernel_rfl) (by kernel_rfl) hG0 ?_
      clear hG0
      repeat (go_big_quiet_step ((fail)))
      refine wpQuiet_nil ?_
      rintro _ ⟨s, rfl⟩
      have HW := Lib.hid (hG2.out s)
      obtain ⟨w2, hw2⟩ := s
      change Hid (Below w.heap.size w w2) at HW
      clear hG2 c0 c1 d0 d1 hcv1 hcv2 hne
      simp only
      all_goals
        go_wp2
        go_roundw
        (case rel => exact ⟨k + 1, by go_num, by omega, HW.out⟩)
        (case measure => simp [intOf]; omega)
    · obtain rfl : k = n := by omega
      go_wp2
      go_ret
      exact ⟨rfl, HBE.out⟩

set_option maxHeartbeats 4000000 in
set_option maxRecDepth 100000 in
theorem places_any (A : Option Addr) (n C lo hi : Nat) (xs : List Xt) (w : World) (hn : n * 16 ≤ 140737488355328) (h : Ex w lo hi A n xs) (hhi : hi ≤ w.heap.size) :
    Calls Tryd.prog 17 #[.slice A n C] w fun e w' => ∃ V, e = .returned V ∧ Ow 54 w V xs w' := by
  have hl := h.len
  have HX := Lib.hid h
  clear h
  go_enter Tryd.func17, Tryd.ntmps17
  go_wp2
  go_loopw [3, 4] (fun v i wr => ∃ (k : Nat), i = .int .i64 k ∧ k ≤ n ∧ Ow 54 w v (xs.take k) wr) (fun _ i _ => n - (intOf i).toNat)
  case atStart => exact ⟨0, rfl, Nat.zero_le _, Ow.nil _ _⟩
  case round =>
    obtain ⟨k, rfl, hk, how⟩ := hrel
    have htl : (xs.take k).length = k := by rw [List.length_take]; omega
    obtain ⟨Af, Cf, hV⟩ := own_form how.own
    rw [htl] at hV
    subst hV
    have HOW := Lib.hid how
    clear how
    by_cases hlt : k < n
    · have hltz : (k : Int) < (n : Int) := by omega
      obtain ⟨b, o, rfl, hb1, hb2, -⟩ := HX.out.at_ (by omega)
      obtain ⟨c0, c1⟩ := HX.out.get rfl (i := k) (by omega)
      have hbw : b < w.heap.size := Nat.lt_of_lt_of_le hb2 hhi
      rw [← HOW.out.be.cell (p := ⟨b, o + k * 2, none⟩) hbw] at c0
      rw [← HOW.out.be.cell (p := ⟨b, o + k * 2 + 1, none⟩) hbw] at c1
      have htk : xs.take (k + 1) = xs.take k ++ [xs[k]] := by rw [List.take_add_one, List.getElem?_eq_getElem (by omega)]; rfl
      have HTK := Lib.hid htk
      have HTL := Lib.hid (show ((xs.take k).length + 1) * 16 ≤ 140737488355328 by omega)
      clear htk
      generalize xs[k] = x at c0 c1 HTK
      clear htl
      have HOD := Lib.hid (HOW.out.below (((Below.refl _ wr).drew).alloc (Nat.le_refl _) (.cells #[.int .i64 x.1, .int .i64 x.2] 54)))
      go_upto_region 5 with fail
      go_region_law (refine step_app1 Tryd.underlying41 rext_info (by rfl) (.tmp 11) (.tmp 23) (by rfl) w (.slice Af k Cf) (xs.take k) x wr.heap.size (by rfl) (by rfl) HOD.out (Bx.new wr.drew _ _) HTL.out ?_; intro V2 w4 how4; have HO4 := Lib.hid how4; clear how4)
      all_goals
        clear c0 c1
        go_wp2
        go_roundw
        (case rel => exact ⟨k + 1, by go_num, by omega, by rw [HTK.out]; exact HO4.out⟩)
        (case measure => simp [intOf]; omega)
    · obtain rfl : k = n := by omega
      have HF := Lib.hid (show Ow 54 w (.slice Af k Cf) xs wr by have h1 := HOW.out; rwa [List.take_of_length_le (by omega)] at h1)
      go_wp2
      go_ret
      exact ⟨_, rfl, HF.out⟩


set_option maxHeartbeats 4000000 in
set_option maxRecDepth 100000 in
theorem samePlaces_any (A B : Option Addr) (n m C D lo hi lo2 hi2 : Nat) (xs ys : List Xt) (w : World) (hn : n ≤ 140737488355328) (h : Ex w lo hi A n xs) (hhi : hi ≤ w.heap.size) (h2 : Ex w lo2 hi2 B m ys) (hhi2 : hi2 ≤ w.heap.size) :
    Calls Tryd.prog 20 #[.slice A n C, .slice B m D] w fun e w' => e = .returned (.bool (decide (xs = ys))) ∧ Below w.heap.size w w' := by
  have hl := h.len
  have hl2 := h2.len
  have HX := Lib.hid h
  have HY := Lib.hid h2
  have hd : (decide (xs = ys) = true) ↔ xs = ys := by rw [decide_eq_true_eq]
  have HD := Lib.hid hd
  generalize decide (xs = ys) = r at *
  clear h h2 hd
  by_cases hne : n = m
  · subst hne
    go_enter Tryd.func20, Tryd.ntmps20
    go_wp2
    go_loopw [5] (fun i wr => ∃ (k : Nat), i = .int .i64 k ∧ k ≤ n ∧ Below w.heap.size w wr ∧ Hid (xs.take k = ys.take k)) (fun i _ => n - (intOf i).toNat)
    case atStart => exact ⟨0, rfl, Nat.zero_le _, Below.refl _ _, Lib.hid rfl⟩
    case round =>
      obtain ⟨k, rfl, hk, hbe, HE⟩ := hrel
      have HBE := Lib.hid hbe
      clear hbe
      by_cases hlt : k < n
      · have hltz : (k : Int) < (n : Int) := by omega
        obtain ⟨b, o, rfl, hb1, hb2, -⟩ := HX.out.at_ (by omega)
        obtain ⟨b', o', rfl, hb1', hb2', -⟩ := HY.out.at_ (by omega)
        obtain ⟨c0, c1⟩ := HX.out.get rfl (i := k) (by omega)
        obtain ⟨d0, d1⟩ := HY.out.get rfl (i := k) (by omega)
        rw [← HBE.out.cell (p := ⟨b, o + k * 2, none⟩) (Nat.lt_of_lt_of_le hb2 hhi)] at c0
        rw [← HBE.out.cell (p := ⟨b, o + k * 2 + 1, none⟩) (Nat.lt_of_lt_of_le hb2 hhi)] at c1
        rw [← HBE.out.cell (p := ⟨b', o' + k * 2, none⟩) (Nat.lt_of_lt_of_le hb2' hhi2)] at d0
        rw [← HBE.out.cell (p := ⟨b', o' + k * 2 + 1, none⟩) (Nat.lt_of_lt_of_le hb2' hhi2)] at d1
        have hst : xs[k]'(by omega) = ys[k]'(by omega) → xs.take (k + 1) = ys.take (k + 1) := fun he => take_snoc_eq (by omega) (by omega) HE.out he
        have hno : xs[k]'(by omega) ≠ ys[k]'(by omega) → xs ≠ ys := fun h1 h2 => h1 (by subst h2; rfl)
        have HST := Lib.hid hst
        have HNO := Lib.hid hno
        clear hst hno
        generalize xs[k]'(by omega) = x at c0 c1 HST HNO
        generalize ys[k]'(by omega) = y at d0 d1 HST HNO
        obtain ⟨x1, x2⟩ := x
        obtain ⟨y1, y2⟩ := y
        simp only at c0 c1 d0 d1
        by_cases q1 : x1 = y1
        · subst q1
          have n1 : (x1 != x1) = false := by simp
          by_cases q2 : x2 = y2
          · subst q2
            have n2 : (x2 != x2) = false := by simp
            go_upto_region 6 with fail
            go_quiet (fail)
            have HBQ := Lib.hid (below_more HBE.out (below_drewN (Below.refl wr.heap.size wr) nq))
            generalize wr.drewN nq = wc at *
            go_wp2
            go_roundw
            case rel => exact ⟨k + 1, by go_num, by omega, HBQ.out, Lib.hid (HST.out rfl)⟩
            case measure => simp [intOf]; omega
          · have n2 : (x2 != y2) = true := by simp [bne, q2]
            have n3 : (x2 == y2) = false := beq_eq_false_iff_ne.2 q2
            have HN := Lib.hid (HNO.out (fun e => q2 (by cases e; rfl)))
            go_upto_region 6 with fail
            go_quiet (fail)
            have HBQ := Lib.hid (below_more HBE.out (below_drewN (Below.refl wr.heap.size wr) nq))
            generalize wr.drewN nq = wc at *
            go_wp2
            go_ret
            exact ⟨congrArg (fun b => Ending.returned (Value.bool b)) (Bool.eq_iff_iff.mpr (by rw [HD.out]; simp [HN.out])), HBQ.out⟩
        · have n2 : (x1 != y1) = true := by simp [bne, q1]
          have n3 : (x1 == y1) = false := beq_eq_false_iff_ne.2 q1
          have HN := Lib.hid (HNO.out (fun e => q1 (by cases e; rfl)))
          go_upto_region 6 with fail
          go_quiet (fail)
          have HBQ := Lib.hid (below_more HBE.out (below_drewN (Below.refl wr.heap.size wr) nq))
          generalize wr.drewN nq = wc at *
          go_wp2
          go_ret
          exact ⟨congrArg (fun b => Ending.returned (Value.bool b)) (Bool.eq_iff_iff.mpr (by rw [HD.out]; simp [HN.out])), HBQ.out⟩
      · obtain rfl : k = n := by omega
        have he := HE.out
        rw [List.take_of_length_le (by omega), List.take_of_length_le (by omega)] at he
        have HEE := Lib.hid he
        clear he
        go_wp2
        go_ret
        exact ⟨congrArg (fun b => Ending.returned (Value.bool b)) (Bool.eq_iff_iff.mpr (by rw [HD.out]; simp [HEE.out])), HBE.out⟩
  · have n1 : ((n : Int) != (m : Int)) = true := by simp [bne]; omega
    have n3 : ((n : Int) == (m : Int)) = false := beq_eq_false_iff_ne.2 (by omega)
    have n4 : ¬ (n : Int) = (m : Int) := by omega
    go_enter Tryd.func20, Tryd.ntmps20
    go_wp2
    go_ret
    exact ⟨congrArg (fun b => Ending.returned (Value.bool b)) (Bool.eq_iff_iff.mpr (by rw [HD.out]; simp; intro e; subst e; omega)), Below.refl _ _⟩

theorem mcl_len (vs : List (Int × Value)) : (mcl vs).length = vs.length * 2 := by
  induction vs with
  | nil => rfl
  | cons x vs ih =>
    have e : mcl (x :: vs) = .int .i64 x.1 :: x.2 :: mcl vs := rfl
    rw [e]
    simp only [List.length_cons, ih]
    omega
theorem mcl_at {vs : List (Int × Value)} {j : Nat} {u : Value} (h : (mcl vs)[j]? = some u) : ∃ (i : Nat) (hi : i < vs.length), (j = i * 2 ∧ u = .int .i64 vs[i].1) ∨ (j = i * 2 + 1 ∧ u = vs[i].2) := by
  have hj : j < vs.length * 2 := by have := (List.getElem?_eq_some_iff.mp h).1; rwa [mcl_len] at this
  have hi : j / 2 < vs.length := by omega
  have hg := mcl_get vs (j / 2) hi
  refine ⟨j / 2, hi, ?_⟩
  rcases Nat.mod_two_eq_zero_or_one j with h0 | h0
  · have e : j = j / 2 * 2 := by omega
    left
    refine ⟨e, ?_⟩
    rw [← e] at hg
    exact Option.some.inj (h.symm.trans hg.1)
  · have e : j = j / 2 * 2 + 1 := by omega
    right
    refine ⟨e, ?_⟩
    rw [← e] at hg
    exact Option.some.inj (h.symm.trans hg.2)
theorem mcl_one (vs : List (Int × Value)) (h : ∀ v ∈ vs, v.2.oneCell' = true) : ∀ u ∈ mcl vs, u.oneCell' = true := by
  intro u hu
  unfold mcl at hu
  rw [List.mem_flatMap] at hu
  obtain ⟨x, hx, h2⟩ := hu
  simp only [List.mem_cons, List.not_mem_nil, or_false] at h2
  rcases h2 with rfl | rfl
  · rfl
  · exact h x hx
/-- The values of a row of messages. -/
theorem Ms.vals {w : World} {B n : Nat} {A : Option Addr} {l : List Mg} (h : Ms w B A n l) : ∃ vs : List (Int × Value), vs.length = l.length ∧ (∀ v ∈ vs, v.2.oneCell' = true) ∧
    (0 < n → ∃ b o, A = some ⟨b, o, none⟩ ∧ b < B ∧ ∀ j u, (mcl vs)[j]? = some u → w.cell? ⟨b, o + j, none⟩ = some u) ∧
    ∀ (i : Nat) (v : Int × Value) (x : Mg), vs[i]? = some v → l[i]? = some x → v.1 = x.1 ∧ ∃ Ai ci, v.2 = .slice Ai x.2.length ci ∧ x.2.length ≤ ci ∧ x.2.length ≤ 140737488355328 ∧ Byt w B Ai x.2.length x.2 := by
  have hl := h.len
  rcases Nat.eq_zero_or_pos n with h0 | h0
  · subst h0
    obtain rfl : l = [] := List.eq_nil_of_length_eq_zero hl
    exact ⟨[], rfl, fun v hv => absurd hv (List.not_mem_nil), fun h => absurd h (Nat.lt_irrefl _), fun i v x hv => by simp at hv⟩
  · obtain ⟨b, o, e, hb, hel⟩ := h.at_ h0
    obtain ⟨F, hF⟩ := each_of (P := fun i (y : Option Addr × Nat) => ∀ (hi : i < l.length), w.cell? ⟨b, o + i * 2, none⟩ = some (.int .i64 l[i].1) ∧ w.cell? ⟨b, o + i * 2 + 1, none⟩ = some (.slice y.1 l[i].2.length y.2) ∧ l[i].2.length ≤ y.2 ∧ l[i].2.length ≤ 140737488355328 ∧ Byt w B y.1 l[i].2.length l[i].2) (n := l.length) (fun i hi => by
      obtain ⟨Ai, ci, h3⟩ := hel i hi
      exact ⟨(Ai, ci), fun _ => h3⟩)
    obtain ⟨vs, hvs⟩ : ∃ vs : List (Int × Value), vs = (List.range l.length).map (fun i => (((l.getD i (0, [])).1, .slice (F i).1 (l.getD i (0, [])).2.length (F i).2) : Int × Value)) := ⟨_, rfl⟩
    have hlen : vs.length = l.length := by rw [hvs]; simp
    have hget : ∀ (i : Nat) (hi : i < vs.length), vs[i] = ((l[i]'(by omega)).1, .slice (F i).1 (l[i]'(by omega)).2.length (F i).2) := by
      intro i hi
      subst hvs
      rw [List.getElem_map, List.getElem_range, List.getD_eq_getElem?_getD, List.getElem?_eq_getElem (by omega)]
      rfl
    refine ⟨vs, hlen, ?_, fun _ => ⟨b, o, e, hb, fun j u hu => ?_⟩, fun i v x hv hx => ?_⟩
    · intro v hv
      obtain ⟨i, hi, rfl⟩ := List.getElem_of_mem hv
      rw [hget i hi]
      rfl
    · obtain ⟨i, hi, h1 | h1⟩ := mcl_at hu
      · obtain ⟨rfl, rfl⟩ := h1
        rw [hget i hi]
        exact (hF i (by omega) (by omega)).1
      · obtain ⟨rfl, rfl⟩ := h1
        rw [hget i hi, ← Nat.add_assoc]
        exact (hF i (by omega) (by omega)).2.1
    · obtain ⟨hi, rfl⟩ := List.getElem?_eq_some_iff.mp hv
      obtain ⟨hi2, rfl⟩ := List.getElem?_eq_some_iff.mp hx
      rw [hget i hi]
      obtain ⟨_, _, k3, k4, k5⟩ := hF i hi2 hi2
      exact ⟨rfl, _, _, rfl, k3, k4, k5⟩
/-- A row of messages is appended to an empty row of the call's own. -/
theorem wp_msgN {t e : TypeId} (ht : Tryd.prog.underlying t = some (.slice e)) (hinf : (Tryd.prog.info? e).map (fun i => (i.zero, i.size, i.bytes)) = some (some (.agg #[.int .i64 0, .slice none 0 0]), 2, 32))
    {ops : Array Oper} {rest : List Oper} {o : Oper} {a : Act} {w : World} {Q : Exit → Act → World → Prop} (hgd : o.guard = none) (s x : Operand)
    (ho : o.op = .call { callee := .builtin .append, args := #[s, x], argTypes := #[t, t] })
    (w0 : World) (V : Value) (l : List Mg) (A : Option Addr) (m c : Nat) (hs : a.eval s = V) (hx : a.eval x = .slice A m c) (hA : A = none → c = 0) (h : w.ownsRow w0.heap.size e 2 V 0 []) (hbe : Below w0.heap.size w0 w) (hb : Ms w0 w0.heap.size A m l) (hl : m * 32 ≤ 140737488355328)
    (hK : ∀ V' w', Om e w0 V' l w' → wpList Tryd.prog ops Q rest (a.put o.dst V') w') :
    wpList Tryd.prog ops Q (o :: rest) a w := by
  obtain ⟨i0, hi0, hz, hs0, hbt⟩ := info_parts hinf
  obtain ⟨vs, hvl, hone, hcells, hel⟩ := hb.vals
  have hlen := hb.len
  rcases A with _ | ad
  · obtain rfl := hA rfl
    have hm : m = 0 := by
      rcases Nat.eq_zero_or_pos m with h0 | h0
      · exact h0
      · obtain ⟨b, o, e, _⟩ := hb.at_ h0; cases e
    subst hm
    obtain rfl : l = [] := List.eq_nil_of_length_eq_zero hlen
    refine wpList_append_own_none hgd s x t ho w0.heap.size e i0 2 ht (by rw [hi0]) V 0 [] hs h hx ?_
    exact hK V w ⟨⟨[], h, rfl, fun i v x hv => by simp at hv⟩, hbe⟩
  · refine wpList_append_own _ hgd s x t ho w0.heap.size e i0 _ 2 32 ht hi0 hz hs0 hbt (by rfl) (by decide) V 0 [] hs h ad m c (mcl vs) hx (by rw [mcl_len, hvl, hlen]) ?_ (mcl_one vs hone) (by unfold maxLen; omega) (by omega) hbe.size ?_
    · intro j u hu
      obtain ⟨i, hi, _⟩ := mcl_at hu
      obtain ⟨b, o, e, hlt, h3⟩ := hcells (by omega)
      cases e
      have hadd : (⟨b, o, none⟩ : Addr).add j = ⟨b, o + j, none⟩ := by unfold Addr.add; split <;> simp_all
      rw [hadd]
      exact (hbe.cell (p := ⟨b, o + j, none⟩) hlt).trans (h3 j u hu)
    · intro V2 w4 hown2 hgr2 _
      have hbe4 : Below w0.heap.size w0 w4 := hbe.grown hgr2 hbe.size (fun k hk => (h.lt k hk).1)
      rw [Nat.zero_add, List.nil_append] at hown2
      refine hK V2 w4 ⟨⟨vs, by rw [hlen]; exact hown2, hvl, fun i v x hv hx => ?_⟩, hbe4⟩
      obtain ⟨k1, Ai, ci, k2, k3, k4, k5⟩ := hel i v x hv hx
      refine ⟨k1, Ai, ci, k2, k3, k4, (k5.later hbe4).up hbe4.size, fun h0 b o e => ?_⟩
      obtain ⟨b', o', e', hlt, _⟩ := k5.at_ h0
      rw [e] at e'
      cases e'
      intro e2
      have := (hown2.lt b e2).1
      omega
end Go.Proofs.YtcgapkepbnbabaaDoor.X5
