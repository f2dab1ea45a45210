/- extent.Rest. -/
import Derived.Test.YtkdfafaiabidgaaKt
namespace Go.Proofs.Ytkdfafaiabidgaa.X5
set_option linter.unusedVariables false
set_option linter.unusedSimpArgs false
open Go.RowKit Wd Ty9

/-- One extent more is appended; what else has turned. -/
theorem wp_app3 {t e : TypeId} (ht : Try.prog.underlying t = some (.slice e)) (hinf : (Try.prog.info? e).map (fun i => (i.zero, i.size, i.bytes)) = some (some (.agg #[.int .i64 0, .int .i64 0]), 2, 16))
    {ops : Array Oper} {rest : List Oper} {o : Oper} {a : Act} {w : World} {Q : Exit → Act → World → Prop} (hgd : o.guard = none) (s x : Operand)
    (ho : o.op = .call { callee := .builtin .append, args := #[s, x], argTypes := #[t, t] })
    (w0 : World) (V : Value) (ou : List Xt) (y : Xt) (g : Nat) (hs : a.eval s = V) (hx : a.eval x = .slice (some ⟨g, 0, none⟩) 1 1) (h : Ow e w0 V ou w) (hb : Bx w g e #[.int .i64 y.1, .int .i64 y.2]) (hl : (ou.length + 1) * 16 ≤ 140737488355328)
    (hK : ∀ V' w', Ow e w0 V' (ou ++ [y]) w' → w.grownBy w' V.ownBlock → wpList Try.prog ops Q rest (a.put o.dst V') w') :
    wpList Try.prog ops Q (o :: rest) a w := by
  obtain ⟨i0, hi0, hz, hs0, hbt⟩ := info_parts hinf
  refine wpList_append_own _ hgd s x t ho w0.heap.size e i0 _ 2 16 ht hi0 hz hs0 hbt (by rfl) (by decide) V ou.length (cl ou) hs h.own ⟨g, 0, none⟩ 1 1 [.int .i64 y.1, .int .i64 y.2] hx (by rfl) (World.news_of_block hb) (by simp [Value.oneCell']) (by unfold maxLen; omega) hl h.be.size ?_
  intro V2 w4 hown2 hgr2 _
  refine hK V2 w4 (h.grown hgr2 ?_) hgr2
  rw [List.length_append, cl_app]
  exact hown2

/-- What Rest tells. -/
def IsRest (xs : List Xt) (size : Int) (e : Int) (out : List Xt) : Prop :=
  (¬ (0 ≤ size ∧ size ≤ 4194304) ∧ e = 2 ∧ out = []) ∨
  ((0 ≤ size ∧ size ≤ 4194304) ∧ ∃ z j, IsNormal xs z j ∧
    ((z ≠ 0 ∧ e = z ∧ out = []) ∨ (z = 0 ∧ (∃ x ∈ j, size < x.1 + x.2) ∧ e = 2 ∧ out = []) ∨
     (z = 0 ∧ (∀ x ∈ j, x.1 + x.2 ≤ size) ∧ ((65536 < (restL j size).length ∧ e = 3 ∧ out = []) ∨ ((restL j size).length ≤ 65536 ∧ e = 0 ∧ out = restL j size)))))
theorem IsRest.uniq {xs : List Xt} {size e1 e2 : Int} {o1 o2 : List Xt} (h1 : IsRest xs size e1 o1) (h2 : IsRest xs size e2 o2) : e1 = e2 ∧ o1 = o2 := by
  rcases h1 with ⟨a1, a2, a3⟩ | ⟨a1, z, j, hn, a⟩ <;> rcases h2 with ⟨b1, b2, b3⟩ | ⟨b1, z', j', hn', b⟩
  · exact ⟨a2.trans b2.symm, a3.trans b3.symm⟩
  · exact absurd b1 a1
  · exact absurd a1 b1
  · obtain ⟨rfl, rfl⟩ := hn.uniq hn'
    rcases a with ⟨p1, p2, p3⟩ | ⟨p1, p2, p3, p4⟩ | ⟨p1, p2, p3⟩ <;> rcases b with ⟨q1, q2, q3⟩ | ⟨q1, q2, q3, q4⟩ | ⟨q1, q2, q3⟩
    · exact ⟨p2.trans q2.symm, p3.trans q3.symm⟩
    · exact absurd q1 p1
    · exact absurd q1 p1
    · exact absurd p1 q1
    · exact ⟨p3.trans q3.symm, p4.trans q4.symm⟩
    · obtain ⟨x, hx, hxs⟩ := p2; have := q2 x hx; omega
    · exact absurd p1 q1
    · obtain ⟨x, hx, hxs⟩ := q2; have := p2 x hx; omega
    · rcases p3 with ⟨r1, r2, r3⟩ | ⟨r1, r2, r3⟩ <;> rcases q3 with ⟨s1, s2, s3⟩ | ⟨s1, s2, s3⟩
      · exact ⟨r2.trans s2.symm, r3.trans s3.symm⟩
      · omega
      · omega
      · exact ⟨r2.trans s2.symm, r3.trans s3.symm⟩
theorem IsRest.len {xs : List Xt} {size e : Int} {out : List Xt} (h : IsRest xs size e out) : out.length ≤ 65536 := by
  rcases h with ⟨_, _, h⟩ | ⟨_, z, j, _, ⟨_, _, h⟩ | ⟨_, _, _, h⟩ | ⟨_, _, ⟨_, _, h⟩ | ⟨h1, _, h⟩⟩⟩
  all_goals rw [h]
  all_goals first | exact h1 | simp
/-- The last one reaches furthest. -/
theorem last_far {pre : List Xt} {c : Xt} (h : Sep (pre ++ [c])) : ∀ x ∈ pre ++ [c], x.1 + x.2 ≤ c.1 + c.2 := by
  obtain ⟨_, h2, h3⟩ := sep_snoc.mp h
  intro x hx
  rcases List.mem_append.mp hx with hx | hx
  · have := h3 x hx; omega
  · simp at hx; subst hx; omega
theorem gaps_len (l : List Xt) : (gapsL l).1.length ≤ l.length := by
  suffices h : ∀ (l : List Xt) (s : List Xt × Int), (l.foldl gstep s).1.length ≤ s.1.length + l.length by
    have := h l ([], 0); simpa [gapsL] using this
  intro l
  induction l with
  | nil => intro s; simp
  | cons x l ih =>
    intro s
    rw [List.foldl_cons]
    have h1 := ih (gstep s x)
    have h2 : (gstep s x).1.length ≤ s.1.length + 1 := by unfold gstep; split <;> simp
    simp
    omega

set_option maxHeartbeats 4000000 in
set_option maxRecDepth 100000 in
theorem rest_bad (A : Option Addr) (n C : Nat) (size : Int) (w : World) (hs : ¬ (0 ≤ size ∧ size ≤ 4194304)) :
    Calls Try.prog 27 #[.slice A n C, .int .i64 size] w fun e w' => e = .returned (.tuple #[.slice none 0 0, .int .i64 2]) ∧ Below w.heap.size w w' := by
  by_cases h1 : size < 0
  · clear hs
    go_enter Try.func27, Try.ntmps27
    go_wp2
    go_ret2
    exact ⟨rfl, Below.refl _ _⟩
  · have h2 : 4194304 < size := by omega
    clear hs
    go_enter Try.func27, Try.ntmps27
    go_wp2
    go_ret2
    exact ⟨rfl, Below.refl _ _⟩

set_option maxHeartbeats 4000000 in
set_option maxRecDepth 100000 in
theorem rest_any (A : Option Addr) (n C lo hi : Nat) (xs : List Xt) (size : Int) (w : World) (hn : n ≤ 140737488355328) (h : Ex w lo hi A n xs) (hhi : hi ≤ w.heap.size) :
    Calls Try.prog 27 #[.slice A n C, .int .i64 size] w fun e w' => ∃ A' C' m z out, e = .returned (.tuple #[.slice A' m C', .int .i64 z]) ∧ IsRest xs size z out ∧ out.length = m ∧ w'.ownsRow w.heap.size 48 2 (.slice A' m C') m (cl out) ∧ Below w.heap.size w w' := by
  by_cases hs : 0 ≤ size ∧ size ≤ 4194304
  · have HSZ := Lib.hid hs
    obtain ⟨hs1, hs2⟩ := hs
    have hl := h.len
    have HN := Lib.hid (normal_any A n C lo hi xs w hn h hhi)
    clear h
    go_enter Try.func27, Try.ntmps27
    go_wp2_with (go_at_call 13; refine HN.out.mono ?_; rintro _ w2 ⟨A2, C2, m, z, j, rfl, hnm, hjl, hown, hb⟩; refine Hid.out ?_)
    have HNM := Lib.hid hnm
    have HB2 := Lib.hid hb
    by_cases hz : z = 0
    · subst hz
      obtain ⟨hlen, hmay, hjoin, hjlen⟩ : xs.length ≤ 65536 ∧ (∀ x ∈ xs, mayP x) ∧ IsJoin xs j ∧ j.length ≤ xs.length := by
        rcases hnm with ⟨_, h1, h2, h3, h4⟩ | ⟨h1, h2, _⟩
        · exact ⟨h1, h2, h3, h4⟩
        · split at h2 <;> omega
      have HJM := Lib.hid (joined_may hjoin hmay)
      have HSEP := Lib.hid hjoin.1
      have HOJ := Lib.hid (show Ow 48 w (.slice A2 m C2) j w2 from ⟨by rw [← hjl] at hown; rw [← hjl]; exact hown, hb⟩)
      have hmb : m ≤ 65536 := by omega
      have HJL := Lib.hid hjl
      -- does the last one reach beyond?
      have key : Hid ((∃ x ∈ j, size < x.1 + x.2) ∨ (∀ x ∈ j, x.1 + x.2 ≤ size)) := by
        by_cases hx : ∃ x ∈ j, size < x.1 + x.2
        · exact Lib.hid (.inl hx)
        · exact Lib.hid (.inr fun x hx2 => Int.not_lt.mp fun h3 => hx ⟨x, hx2, h3⟩)
      have HG := Lib.hid (show ∀ (W : World), Ow 48 w (.slice A2 m C2) j W → 0 < m → ∃ g c, A2 = some ⟨g, 0, none⟩ ∧ W.cell? ⟨g, (m - 1) * 2, none⟩ = some (.int .i64 c.1) ∧ W.cell? ⟨g, (m - 1) * 2 + 1, none⟩ = some (.int .i64 c.2) ∧ mayP c ∧ c ∈ j ∧ (∀ x ∈ j, x.1 + x.2 ≤ c.1 + c.2) from fun W hW h0 => by
        have hjl := HJL.out
        subst hjl
        obtain ⟨g, cap, e, _, _⟩ := hW.own.form h0
        cases e
        obtain ⟨_, _, ev, -, hex, -⟩ := own_ex hW.own
        cases ev
        rcases List.eq_nil_or_concat j with rfl | ⟨pre, c, rfl⟩
        · exact absurd h0 (by simp)
        · rw [List.concat_eq_append] at *
          obtain ⟨c0, c1⟩ := hex.get rfl (i := pre.length) (by simp)
          have e1 : (pre ++ [c]).length - 1 = pre.length := by simp
          simp only [List.getElem_concat_length, Nat.zero_add] at c0 c1
          rw [e1]
          exact ⟨g, c, rfl, c0, c1, (HJM.out c (by simp)).1, by simp, last_far HSEP.out⟩)
      clear hown hb hnm hjoin hjlen hmay hlen hjl HN
      rcases Nat.eq_zero_or_pos m with hmz | hm0
      · have hok : Hid (∀ x ∈ j, x.1 + x.2 ≤ size) := Lib.hid (by obtain rfl : j = [] := List.eq_nil_of_length_eq_zero (by rw [HJL.out]; exact hmz); simp)
        have s6 : decide (0 < m) = false := by simp; omega
        have s7 : ¬ (0 : Int) < (m : Int) := by omega
        clear hmz
        have HOW := HOJ
        have HOK := Lib.hid hok
        have hLL : (j ++ [((size, 0) : Xt)]).length = m + 1 := by have := HJL.out; simp; omega
        have HLL := Lib.hid hLL
        have HALL := Lib.hid (show ∀ x ∈ j ++ [((size, 0) : Xt)], mayP x from fun x hx => by
          rcases List.mem_append.mp hx with hx | hx
          · exact (HJM.out x hx).1
          · simp at hx; subst hx; have := HSZ.out; unfold mayP; simp only []; omega)
        have HOD := Lib.hid (HOW.out.below (below_new w2 (.cells #[.int .i64 size, .int .i64 0] 48)))
        clear hok hLL
        refine go_on ?_
        go_wp2_with (at_builtin; refine wp_app2 Try.underlying22 ext_info (by rfl) (.tmp 40) (.tmp 43) (by rfl) w _ j (size, 0) w2.heap.size (by rfl) (by rfl) HOD.out (Bx.new w2 _ _) (by have := HJL.out; omega) ?_; intro V3 w3 how3; refine Hid.out ?_)
        obtain ⟨g3, cap3, hV, hg1, hg2⟩ := how3.own.form (by simp)
        rw [HLL.out] at hV
        subst hV
        have how3' := how3.own
        rw [HLL.out] at how3'
        obtain ⟨_, _, ev, -, hex3, -⟩ := own_ex how3'
        cases ev
        have HX3 := Lib.hid hex3
        have HB3 := Lib.hid how3.be
        have hgw := hg2
        clear how3 how3' hex3 hg1 hg2
        refine go_on ?_
        go_wp2
        go_loopw [8, 9, 46] (fun v a i wr => ∃ (k : Nat) (at_ : Int) (ou : List Xt), a = .int .i64 at_ ∧ i = .int .i64 k ∧ k ≤ m + 1 ∧ 0 ≤ at_ ∧ at_ ≤ 4194304 ∧ Hid (gapsL ((j ++ [((size, 0) : Xt)]).take k) = (ou, at_)) ∧ Ow 48 w3 v ou wr) (fun _ _ i _ => m + 1 - (intOf i).toNat)
        case atStart => exact ⟨0, 0, [], rfl, rfl, Nat.zero_le _, by omega, by omega, Lib.hid rfl, Ow.nil _ _⟩
        case round =>
          obtain ⟨k, at_, ou, rfl, rfl, hk, ha0, ha1, HGP, how⟩ := hrel
          obtain ⟨Af, Cf, hV⟩ := own_form how.own
          subst hV
          have hol : ou.length ≤ k := by have := gaps_len ((j ++ [((size, 0) : Xt)]).take k); rw [HGP.out, List.length_take] at this; simp at this; omega
          have HOL := Lib.hid hol
          have HOW4 := Lib.hid how
          clear how hol
          by_cases hlt : k < m + 1
          · have hltz : (k : Int) < (m : Int) + 1 := by omega
            have hk2 : k < (j ++ [((size, 0) : Xt)]).length := by have := HLL.out; omega
            obtain ⟨c0, c1⟩ := HX3.out.get rfl (i := k) hk2
            rw [Nat.zero_add] at c0 c1
            rw [← HOW4.out.be.cell (p := ⟨g3, k * 2, none⟩) hgw] at c0
            rw [← HOW4.out.be.cell (p := ⟨g3, k * 2 + 1, none⟩) hgw] at c1
            have hxm := HALL.out _ (List.getElem_mem hk2)
            have hgs : gapsL ((j ++ [((size, 0) : Xt)]).take (k + 1)) = gstep (ou, at_) (j ++ [((size, 0) : Xt)])[k] := by
              rw [List.take_add_one, List.getElem?_eq_getElem hk2, Option.toList_some, gapsL_snoc, HGP.out]
            generalize (j ++ [((size, 0) : Xt)])[k] = x at c0 c1 hxm hgs
            have HXM := Lib.hid hxm
            have HGS := Lib.hid hgs
            have hxx := hxm
            unfold mayP at hxx
            have s1 : wrap64 (x.1 - at_) = x.1 - at_ := by unfold wrap64; omega
            have HEB := Lib.hid (show 0 ≤ x.1 + x.2 ∧ x.1 + x.2 ≤ 4194304 by omega)
            have HBX := Lib.hid (Bx.new wr 48 #[.int .i64 x.1, .int .i64 x.2])
            have HW := Lib.hid (below_new wr (.cells #[.int .i64 x.1, .int .i64 x.2] 48))
            clear hxm hgs hxx hk2
            by_cases hgt : at_ < x.1
            · obtain ⟨wb, hwb⟩ : ∃ wb, wb = wr.alloc (.cells #[.int .i64 x.1, .int .i64 x.2] 48) := ⟨_, rfl⟩
              have HWB := Lib.hid hwb
              rw [← hwb] at HBX HW
              clear hwb
              have x0 : wb.cell? ⟨wr.heap.size, 0, none⟩ = some (.int .i64 x.1) := HBX.out.cell 0
              have x1 : wb.cell? ⟨wr.heap.size, 1, none⟩ = some (.int .i64 x.2) := HBX.out.cell 1
              have HOE := Lib.hid ((HOW4.out.below HW.out).below (below_new wb (.cells #[.int .i64 at_, .int .i64 (x.1 - at_)] 48)))
              go_upto_region 15 with fail
              rw [← HWB.out]
              clear c0 c1
              go_wp2_with (at_builtin; refine wp_app3 Try.underlying22 ext_info (by rfl) (.tmp 54) (.tmp 61) (by rfl) w3 _ ou (at_, x.1 - at_) wb.heap.size (by rfl) (by rfl) HOE.out (Bx.new wb _ _) (by have := HOL.out; omega) ?_; intro V5 w5 how5 hgr5; refine Hid.out ?_)
              have hbx5 : Bx w5 wr.heap.size 48 #[.int .i64 x.1, .int .i64 x.2] := (hgr5.block _ (by have := HBX.out.lt; simp; omega) (fun e => absurd (HOW4.out.own.lt _ e.symm).2 (Nat.lt_irrefl _))).trans ((below_new wb _).block _ HBX.out.lt |>.trans HBX.out)
              have x0 : w5.cell? ⟨wr.heap.size, 0, none⟩ = some (.int .i64 x.1) := hbx5.cell 0
              have x1 : w5.cell? ⟨wr.heap.size, 1, none⟩ = some (.int .i64 x.2) := hbx5.cell 1
              obtain ⟨A5, C5, hV⟩ := own_form how5.own
              rw [List.length_append, List.length_singleton] at hV
              subst hV
              have HO5 := Lib.hid how5
              clear how5 hbx5 hgr5
              refine go_on ?_
              go_wp2_with (go_at_call 42; refine (end_any x _ HXM.out).mono ?_; rintro _ w6 ⟨rfl, hb6⟩; have HB6 := Lib.hid hb6; clear hb6)
              go_roundw
              case rel => exact ⟨k + 1, _, _, rfl, by go_num, by omega, HEB.out.1, HEB.out.2, Lib.hid (by rw [HGS.out, gstep, if_pos hgt]), HO5.out.below HB6.out⟩
              case measure => simp [intOf]; omega
            · obtain ⟨wb, hwb⟩ : ∃ wb, wb = wr.alloc (.cells #[.int .i64 x.1, .int .i64 x.2] 48) := ⟨_, rfl⟩
              have HWB := Lib.hid hwb
              rw [← hwb] at HBX HW
              clear hwb
              have x0 : wb.cell? ⟨wr.heap.size, 0, none⟩ = some (.int .i64 x.1) := HBX.out.cell 0
              have x1 : wb.cell? ⟨wr.heap.size, 1, none⟩ = some (.int .i64 x.2) := HBX.out.cell 1
              have HOE := Lib.hid (HOW4.out.below HW.out)
              go_upto_region 16 with fail
              rw [← HWB.out]
              clear c0 c1
              go_wp2_with (go_at_call 42; refine (end_any x _ HXM.out).mono ?_; rintro _ w6 ⟨rfl, hb6⟩; have HB6 := Lib.hid hb6; clear hb6)
              go_roundw
              case rel => exact ⟨k + 1, _, _, rfl, by go_num, by omega, HEB.out.1, HEB.out.2, Lib.hid (by rw [HGS.out, gstep, if_neg (Int.not_lt.mpr hgt)]), HOE.out.below HB6.out⟩
              case measure => simp [intOf]; omega
          · obtain rfl : k = m + 1 := by omega
            have hgp := HGP.out
            rw [List.take_of_length_le (by have := HLL.out; omega)] at hgp
            have hrl : restL j size = ou := by unfold restL; rw [hgp]
            by_cases hbig : 65536 < ou.length
            · have HRS := Lib.hid (show IsRest xs size 3 [] from .inr ⟨HSZ.out, 0, j, HNM.out, .inr (.inr ⟨rfl, HOK.out.out, .inl ⟨by rw [hrl]; exact hbig, rfl, rfl⟩⟩)⟩)
              have HBF := Lib.hid (below_then HB3.out HB3.out.size HOW4.out.be)
              have hb2 : (65536 : Int) < (ou.length : Int) := by omega
              clear hgp hrl hbig
              go_wp2
              go_ret2
              exact ⟨none, 0, 0, 3, [], rfl, HRS.out, rfl, World.ownsRow_nil _ _ _ _, HBF.out⟩
            · have HRS := Lib.hid (show IsRest xs size 0 ou from .inr ⟨HSZ.out, 0, j, HNM.out, .inr (.inr ⟨rfl, HOK.out.out, .inr ⟨by rw [hrl]; omega, rfl, hrl.symm⟩⟩)⟩)
              have HBF := Lib.hid (below_then HB3.out HB3.out.size HOW4.out.be)
              have HOF := Lib.hid (own_base HOW4.out.own HB3.out.size)
              have hb2 : ¬ (65536 : Int) < (ou.length : Int) := by omega
              clear hgp hrl hbig
              go_wp2
              go_ret2
              first | exact ⟨Af, Cf, ou.length, 0, ou, rfl, HRS.out, rfl, HOF.out, HBF.out⟩ | exact ⟨Af, Cf, ou.length, 0, rfl, ou, HRS.out, rfl, HOF.out, HBF.out⟩ | exact ⟨Af, Cf, ou.length, 0, rfl, ⟨ou, HRS.out, rfl, HOF.out⟩, HBF.out⟩
      · obtain ⟨g, c, rfl, c0, c1, hcm, hcj, hfar⟩ := HG.out w2 HOJ.out hm0
        have HCM := Lib.hid hcm
        have HCJ := Lib.hid hcj
        have HFAR := Lib.hid hfar
        have s1 : wrap64 ((m : Int) - 1) = ((m - 1 : Nat) : Int) := by unfold wrap64; omega
        have s3 : (0 : Int) < (m : Int) := by omega
        have s4 : ((m - 1 : Nat) : Int) < (m : Int) := by omega
        have s5 : (0 : Int) ≤ ((m - 1 : Nat) : Int) := by omega
        have s6 : decide (0 < m) = true := by simp; omega
        clear hcm hcj hfar HG s1 s4 s5
        by_cases hover : size < c.1 + c.2
        · have HRS := Lib.hid (show IsRest xs size 2 [] from .inr ⟨HSZ.out, 0, j, HNM.out, .inr (.inl ⟨rfl, ⟨c, HCJ.out, hover⟩, rfl, rfl⟩)⟩)
          refine go_on ?_
          go_wp2_with (go_at_call 42; refine (end_any c _ HCM.out).mono ?_; rintro _ w6 ⟨rfl, hb6⟩; have HB6 := Lib.hid (below_more HB2.out hb6); clear hb6)
          go_ret2
          exact ⟨none, 0, 0, 2, [], rfl, HRS.out, rfl, World.ownsRow_nil _ _ _ _, HB6.out⟩
        · have hok : Hid (∀ x ∈ j, x.1 + x.2 ≤ size) := Lib.hid (fun x hx => by have := HFAR.out x hx; omega)
          refine go_on ?_
          go_wp2_with (go_at_call 42; refine (end_any c _ HCM.out).mono ?_; rintro _ w7 ⟨rfl, hb7⟩; refine Hid.out ?_)
          have HOW := Lib.hid (HOJ.out.below hb7)
          clear hb7 c0 c1 s3 s6
          have HOK := Lib.hid hok
          have hLL : (j ++ [((size, 0) : Xt)]).length = m + 1 := by have := HJL.out; simp; omega
          have HLL := Lib.hid hLL
          have HALL := Lib.hid (show ∀ x ∈ j ++ [((size, 0) : Xt)], mayP x from fun x hx => by
            rcases List.mem_append.mp hx with hx | hx
            · exact (HJM.out x hx).1
            · simp at hx; subst hx; have := HSZ.out; unfold mayP; simp only []; omega)
          have HOD := Lib.hid (HOW.out.below (below_new w7 (.cells #[.int .i64 size, .int .i64 0] 48)))
          clear hok hLL
          refine go_on ?_
          go_wp2_with (at_builtin; refine wp_app2 Try.underlying22 ext_info (by rfl) (.tmp 40) (.tmp 43) (by rfl) w _ j (size, 0) w7.heap.size (by rfl) (by rfl) HOD.out (Bx.new w7 _ _) (by have := HJL.out; omega) ?_; intro V3 w3 how3; refine Hid.out ?_)
          obtain ⟨g3, cap3, hV, hg1, hg2⟩ := how3.own.form (by simp)
          rw [HLL.out] at hV
          subst hV
          have how3' := how3.own
          rw [HLL.out] at how3'
          obtain ⟨_, _, ev, -, hex3, -⟩ := own_ex how3'
          cases ev
          have HX3 := Lib.hid hex3
          have HB3 := Lib.hid how3.be
          have hgw := hg2
          clear how3 how3' hex3 hg1 hg2
          refine go_on ?_
          go_wp2
          go_loopw [8, 9, 46] (fun v a i wr => ∃ (k : Nat) (at_ : Int) (ou : List Xt), a = .int .i64 at_ ∧ i = .int .i64 k ∧ k ≤ m + 1 ∧ 0 ≤ at_ ∧ at_ ≤ 4194304 ∧ Hid (gapsL ((j ++ [((size, 0) : Xt)]).take k) = (ou, at_)) ∧ Ow 48 w3 v ou wr) (fun _ _ i _ => m + 1 - (intOf i).toNat)
          case atStart => exact ⟨0, 0, [], rfl, rfl, Nat.zero_le _, by omega, by omega, Lib.hid rfl, Ow.nil _ _⟩
          case round =>
            obtain ⟨k, at_, ou, rfl, rfl, hk, ha0, ha1, HGP, how⟩ := hrel
            obtain ⟨Af, Cf, hV⟩ := own_form how.own
            subst hV
            have hol : ou.length ≤ k := by have := gaps_len ((j ++ [((size, 0) : Xt)]).take k); rw [HGP.out, List.length_take] at this; simp at this; omega
            have HOL := Lib.hid hol
            have HOW4 := Lib.hid how
            clear how hol
            by_cases hlt : k < m + 1
            · have hltz : (k : Int) < (m : Int) + 1 := by omega
              have hk2 : k < (j ++ [((size, 0) : Xt)]).length := by have := HLL.out; omega
              obtain ⟨c0, c1⟩ := HX3.out.get rfl (i := k) hk2
              rw [Nat.zero_add] at c0 c1
              rw [← HOW4.out.be.cell (p := ⟨g3, k * 2, none⟩) hgw] at c0
              rw [← HOW4.out.be.cell (p := ⟨g3, k * 2 + 1, none⟩) hgw] at c1
              have hxm := HALL.out _ (List.getElem_mem hk2)
              have hgs : gapsL ((j ++ [((size, 0) : Xt)]).take (k + 1)) = gstep (ou, at_) (j ++ [((size, 0) : Xt)])[k] := by
                rw [List.take_add_one, List.getElem?_eq_getElem hk2, Option.toList_some, gapsL_snoc, HGP.out]
              generalize (j ++ [((size, 0) : Xt)])[k] = x at c0 c1 hxm hgs
              have HXM := Lib.hid hxm
              have HGS := Lib.hid hgs
              have hxx := hxm
              unfold mayP at hxx
              have s1 : wrap64 (x.1 - at_) = x.1 - at_ := by unfold wrap64; omega
              have HEB := Lib.hid (show 0 ≤ x.1 + x.2 ∧ x.1 + x.2 ≤ 4194304 by omega)
              have HBX := Lib.hid (Bx.new wr 48 #[.int .i64 x.1, .int .i64 x.2])
              have HW := Lib.hid (below_new wr (.cells #[.int .i64 x.1, .int .i64 x.2] 48))
              clear hxm hgs hxx hk2
              by_cases hgt : at_ < x.1
              · obtain ⟨wb, hwb⟩ : ∃ wb, wb = wr.alloc (.cells #[.int .i64 x.1, .int .i64 x.2] 48) := ⟨_, rfl⟩
                have HWB := Lib.hid hwb
                rw [← hwb] at HBX HW
                clear hwb
                have x0 : wb.cell? ⟨wr.heap.size, 0, none⟩ = some (.int .i64 x.1) := HBX.out.cell 0
                have x1 : wb.cell? ⟨wr.heap.size, 1, none⟩ = some (.int .i64 x.2) := HBX.out.cell 1
                have HOE := Lib.hid ((HOW4.out.below HW.out).below (below_new wb (.cells #[.int .i64 at_, .int .i64 (x.1 - at_)] 48)))
                go_upto_region 15 with fail
                rw [← HWB.out]
                clear c0 c1
                go_wp2_with (at_builtin; refine wp_app3 Try.underlying22 ext_info (by rfl) (.tmp 54) (.tmp 61) (by rfl) w3 _ ou (at_, x.1 - at_) wb.heap.size (by rfl) (by rfl) HOE.out (Bx.new wb _ _) (by have := HOL.out; omega) ?_; intro V5 w5 how5 hgr5; refine Hid.out ?_)
                have hbx5 : Bx w5 wr.heap.size 48 #[.int .i64 x.1, .int .i64 x.2] := (hgr5.block _ (by have := HBX.out.lt; simp; omega) (fun e => absurd (HOW4.out.own.lt _ e.symm).2 (Nat.lt_irrefl _))).trans ((below_new wb _).block _ HBX.out.lt |>.trans HBX.out)
                have x0 : w5.cell? ⟨wr.heap.size, 0, none⟩ = some (.int .i64 x.1) := hbx5.cell 0
                have x1 : w5.cell? ⟨wr.heap.size, 1, none⟩ = some (.int .i64 x.2) := hbx5.cell 1
                obtain ⟨A5, C5, hV⟩ := own_form how5.own
                rw [List.length_append, List.length_singleton] at hV
                subst hV
                have HO5 := Lib.hid how5
                clear how5 hbx5 hgr5
                refine go_on ?_
                go_wp2_with (go_at_call 42; refine (end_any x _ HXM.out).mono ?_; rintro _ w6 ⟨rfl, hb6⟩; have HB6 := Lib.hid hb6; clear hb6)
                go_roundw
                case rel => exact ⟨k + 1, _, _, rfl, by go_num, by omega, HEB.out.1, HEB.out.2, Lib.hid (by rw [HGS.out, gstep, if_pos hgt]), HO5.out.below HB6.out⟩
                case measure => simp [intOf]; omega
              · obtain ⟨wb, hwb⟩ : ∃ wb, wb = wr.alloc (.cells #[.int .i64 x.1, .int .i64 x.2] 48) := ⟨_, rfl⟩
                have HWB := Lib.hid hwb
                rw [← hwb] at HBX HW
                clear hwb
                have x0 : wb.cell? ⟨wr.heap.size, 0, none⟩ = some (.int .i64 x.1) := HBX.out.cell 0
                have x1 : wb.cell? ⟨wr.heap.size, 1, none⟩ = some (.int .i64 x.2) := HBX.out.cell 1
                have HOE := Lib.hid (HOW4.out.below HW.out)
                go_upto_region 16 with fail
                rw [← HWB.out]
                clear c0 c1
                go_wp2_with (go_at_call 42; refine (end_any x _ HXM.out).mono ?_; rintro _ w6 ⟨rfl, hb6⟩; have HB6 := Lib.hid hb6; clear hb6)
                go_roundw
                case rel => exact ⟨k + 1, _, _, rfl, by go_num, by omega, HEB.out.1, HEB.out.2, Lib.hid (by rw [HGS.out, gstep, if_neg (Int.not_lt.mpr hgt)]), HOE.out.below HB6.out⟩
                case measure => simp [intOf]; omega
            · obtain rfl : k = m + 1 := by omega
              have hgp := HGP.out
              rw [List.take_of_length_le (by have := HLL.out; omega)] at hgp
              have hrl : restL j size = ou := by unfold restL; rw [hgp]
              by_cases hbig : 65536 < ou.length
              · have HRS := Lib.hid (show IsRest xs size 3 [] from .inr ⟨HSZ.out, 0, j, HNM.out, .inr (.inr ⟨rfl, HOK.out.out, .inl ⟨by rw [hrl]; exact hbig, rfl, rfl⟩⟩)⟩)
                have HBF := Lib.hid (below_then HB3.out HB3.out.size HOW4.out.be)
                have hb2 : (65536 : Int) < (ou.length : Int) := by omega
                clear hgp hrl hbig
                go_wp2
                go_ret2
                exact ⟨none, 0, 0, 3, [], rfl, HRS.out, rfl, World.ownsRow_nil _ _ _ _, HBF.out⟩
              · have HRS := Lib.hid (show IsRest xs size 0 ou from .inr ⟨HSZ.out, 0, j, HNM.out, .inr (.inr ⟨rfl, HOK.out.out, .inr ⟨by rw [hrl]; omega, rfl, hrl.symm⟩⟩)⟩)
                have HBF := Lib.hid (below_then HB3.out HB3.out.size HOW4.out.be)
                have HOF := Lib.hid (own_base HOW4.out.own HB3.out.size)
                have hb2 : ¬ (65536 : Int) < (ou.length : Int) := by omega
                clear hgp hrl hbig
                go_wp2
                go_ret2
                first | exact ⟨Af, Cf, ou.length, 0, ou, rfl, HRS.out, rfl, HOF.out, HBF.out⟩ | exact ⟨Af, Cf, ou.length, 0, rfl, ou, HRS.out, rfl, HOF.out, HBF.out⟩ | exact ⟨Af, Cf, ou.length, 0, rfl, ⟨ou, HRS.out, rfl, HOF.out⟩, HBF.out⟩
    · obtain ⟨rfl, hj⟩ : z = (if 65536 < xs.length then 3 else 2) ∧ j = [] := by
        rcases hnm with ⟨h1, _⟩ | ⟨_, h2, h3⟩
        · exact absurd h1 hz
        · exact ⟨h2, h3⟩
      generalize (if 65536 < xs.length then (3 : Int) else 2) = z at *
      have z1 : (z != 0) = true := by simp [bne]; exact hz
      have z2 : (z == 0) = false := beq_eq_false_iff_ne.2 hz
      have HZ := Lib.hid hz
      clear hz hown hb hnm
      refine go_on ?_
      go_wp2
      go_ret2
      exact ⟨none, 0, 0, z, [], rfl, .inr ⟨HSZ.out, z, j, HNM.out, .inl ⟨HZ.out, rfl, rfl⟩⟩, rfl, World.ownsRow_nil _ _ _ _, HB2.out⟩
  · exact (rest_bad A n C size w hs).mono fun e w' ⟨h1, h2⟩ => ⟨none, 0, 0, 2, [], h1, .inl ⟨hs, rfl, rfl⟩, rfl, World.ownsRow_nil _ _ _ _, h2⟩
end Go.Proofs.Ytkdfafaiabidgaa.X5
