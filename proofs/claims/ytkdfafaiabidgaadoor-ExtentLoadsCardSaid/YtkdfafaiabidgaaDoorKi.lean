/- extent.join: the good list of all bytes. -/
import Derived.Test.YtkdfafaiabidgaaDoorKh
import Derived.IntWalk
namespace Go.Proofs.YtkdfafaiabidgaaDoor.X5
set_option linter.unusedVariables false
set_option linter.unusedSimpArgs false
open Go.RowKit Wd Ty9

theorem thaw_below {w w2 : World} {A : Option Addr} {n B : Nat} (h : Thaw w A n) (hb : Below B w w2) (hA : 0 < n → ∀ b o, A = some ⟨b, o, none⟩ → b < B) : Thaw w2 A n :=
  fun hn b o e j => (hb.frozen (p := ⟨b, j, none⟩) (hA hn b o e)).trans (h hn b o e j)
theorem perm_may {xs d : List Xt} {q : Xt → Bool} (hp : d.Perm (xs.filter q)) (hm : ∀ x ∈ xs, mayP x) : ∀ x ∈ d, mayP x := fun x hx => hm x (List.mem_filter.mp (hp.mem_iff.mp hx)).1

theorem go_on {p : Prop} (h : p) : Hid p := h
/-- The loop's state: V owns the list out. -/
structure Ow (e : TypeId) (w : World) (V : Value) (out : List Xt) (wr : World) : Prop where
  own : wr.ownsRow w.heap.size e 2 V out.length (cl out)
  be : Below w.heap.size w wr
theorem Ow.nil (e : TypeId) (w : World) : Ow e w (.slice none 0 0) [] w := ⟨World.ownsRow_nil _ _ _ _, Below.refl _ _⟩
theorem Ow.below {e : TypeId} {w wr w2 : World} {V : Value} {out : List Xt} (h : Ow e w V out wr) (hb : Below wr.heap.size wr w2) : Ow e w V out w2 := by
  refine ⟨h.own.kept ⟨hb.os, hb.tape, hb.output, hb.size, fun k hk _ => hb.block k hk⟩ (?_ : V.ownBlock = none ∨ V.ownBlock ≠ some w2.heap.size), below_more h.be hb⟩
  rcases hv : V.ownBlock with _ | k
  · exact .inl rfl
  · exact .inr (fun e => by injection e with e; have := (h.own.lt k hv).2; have := hb.size; omega)
theorem Ow.grown {e : TypeId} {w wr w2 : World} {V V' : Value} {out out' : List Xt} (h : Ow e w V out wr) (hg : wr.grownBy w2 V.ownBlock) (ho : w2.ownsRow w.heap.size e 2 V' out'.length (cl out')) : Ow e w V' out' w2 :=
  ⟨ho, h.be.grown hg h.be.size (fun k hk => (h.own.lt k hk).1)⟩
/-- A value in the row is written over. -/
theorem Ow.store {e : TypeId} {w wr : World} {g n cap : Nat} {out : List Xt} (h : Ow e w (.slice (some ⟨g, 0, none⟩) n cap) out wr) (hn : n = out.length) {i : Nat} (hi : i < out.length) (z : Int) :
    Ow e w (.slice (some ⟨g, 0, none⟩) n cap) (out.set i (out[i].1, z)) (wr.setCell ⟨g, i * 2 + 1, none⟩ (.int .i64 z)) := by
  subst hn
  obtain ⟨h1, h2⟩ := h.own.stored (i * 2 + 1) (.int .i64 z)
  refine h.grown h2 ?_
  rw [List.length_set]
  have : cl (out.set i (out[i].1, z)) = (cl out).set (i * 2 + 1) (.int .i64 z) := by
    apply List.ext_getElem?
    intro j
    rcases hj : (cl (out.set i (out[i].1, z)))[j]? with _ | u
    · rw [List.getElem?_eq_none_iff, cl_len, List.length_set] at hj
      symm
      rw [List.getElem?_eq_none_iff, List.length_set, cl_len]
      exact hj
    · obtain ⟨g1, g2⟩ := cl_get out i hi
      symm
      rcases cl_set hi _ j u hj with ⟨rfl, rfl⟩ | ⟨rfl, rfl⟩ | ⟨n1, n2, hu⟩
      · rw [List.getElem?_set_ne (by omega)]; exact g1
      · rw [List.getElem?_set_self (by rw [cl_len]; omega)]
      · rw [List.getElem?_set_ne (by omega)]; exact hu
  rw [this]
  exact h1
theorem snoc_set (pre : List Xt) (c y : Xt) : (pre ++ [c]).set pre.length y = pre ++ [y] := by simp

theorem Ow.last {e : TypeId} {w wr : World} {g N L cap : Nat} {pre : List Xt} {c : Xt} (h : Ow e w (.slice (some ⟨g, 0, none⟩) N cap) (pre ++ [c]) wr) (hN : L + 1 = N) (hL : pre.length = L) (z : Int) :
    Ow e w (.slice (some ⟨g, 0, none⟩) N cap) (pre ++ [(c.1, z)]) (wr.setCell ⟨g, L * 2 + 1, none⟩ (.int .i64 z)) := by
  subst hL
  have h1 := h.store (by simp; omega) (i := pre.length) (by simp) z
  rwa [snoc_set, List.getElem_concat_length (by rfl)] at h1
/-- One extent more is appended. -/
theorem wp_app1 {t e : TypeId} (ht : Tryd.prog.underlying t = some (.slice e)) (hinf : (Tryd.prog.info? e).map (fun i => (i.zero, i.size, i.bytes)) = some (some (.agg #[.int .i64 0, .int .i64 0]), 2, 16))
    {ops : Array Oper} {rest : List Oper} {o : Oper} {a : Act} {w : World} {Q : Exit → Act → World → Prop} (hgd : o.guard = none) (s x : Operand)
    (ho : o.op = .call { callee := .builtin .append, args := #[s, x], argTypes := #[t, t] })
    (w0 : World) (V : Value) (ou : List Xt) (y : Xt) (g : Nat) (hs : a.eval s = V) (hx : a.eval x = .slice (some ⟨g, 0, none⟩) 1 1) (h : Ow e w0 V ou w) (hb : Bx w g e #[.int .i64 y.1, .int .i64 y.2]) (hl : ou.length ≤ 2000000)
    (hK : ∀ V' w', Ow e w0 V' (ou ++ [y]) w' → wpList Tryd.prog ops Q rest (a.put o.dst V') w') :
    wpList Tryd.prog ops Q (o :: rest) a w := by
  obtain ⟨i0, hi0, hz, hs0, hbt⟩ := info_parts hinf
  refine wpList_append_own _ hgd s x t ho w0.heap.size e i0 _ 2 16 ht hi0 hz hs0 hbt (by rfl) (by decide) V ou.length (cl ou) hs h.own ⟨g, 0, none⟩ 1 1 [.int .i64 y.1, .int .i64 y.2] hx (by rfl) (World.news_of_block hb) (by simp [Value.oneCell']) (by unfold maxLen; omega) (by omega) h.be.size ?_
  intro V2 w4 hown2 hgr2 _
  refine hK V2 w4 (h.grown hgr2 ?_)
  rw [List.length_append, cl_app]
  exact hown2

set_option maxHeartbeats 4000000 in
set_option maxRecDepth 100000 in
theorem join_any (A : Option Addr) (n C lo hi : Nat) (xs : List Xt) (w : World) (hn : n ≤ 1000000) (h : Ex w lo hi A n xs) (hhi : hi ≤ w.heap.size) (hm : ∀ x ∈ xs, mayP x) :
    Calls Tryd.prog 31 #[.slice A n C] w fun e w' => ∃ V out, e = .returned V ∧ IsJoin xs out ∧ out.length ≤ n ∧ w'.ownsRow w.heap.size 45 2 V out.length (cl out) ∧ Below w.heap.size w w' := by
  have HCL := Lib.hid (clone_any A n C lo hi xs w (by omega) h)
  have HM := Lib.hid hm
  have hl := h.len
  have HX := Lib.hid h
  have eg1 : ∀ args w, (callFunc 46 args).run Tryd.prog w = .ok (.enter 46 args) w := enters_of Tryd.func46 (by kernel_rfl) rfl
  have eg2 : ∀ args w, (callFunc 48 args).run Tryd.prog w = .ok (.enter 48 args) w := enters_of Tryd.func48 (by kernel_rfl) rfl
  have HE1 := Lib.hid eg1
  have HE2 := Lib.hid eg2
  clear h hm eg1 eg2
  go_enter Tryd.func31, Tryd.ntmps31
  go_wp2_with (first
    | (go_at_call 34; refine HCL.out.mono ?_; rintro _ w1 ⟨A1, C1, rfl, hC1, hown1, hb1⟩; have HO1 := Lib.hid hown1; have HC1 := Lib.hid hC1; have HB1 := Lib.hid hb1; clear hown1 hC1 hb1 HCL)
    | (go_at_call 45; obtain ⟨A1', C1', ev, hcc, hex1, hth1⟩ := own_ex HO1.out; cases ev; refine (delete_any (fun x => decide (x.2 = 0)) 46 says_join HE1.out A1 n C1 w.heap.size w1.heap.size xs w1 (by omega) HC1.out hex1 hth1 (Nat.le_refl _)).mono ?_; clear hex1 hth1 hcc; rintro _ w2 ⟨m, hmC, rfl, hex2, hth2, hch2⟩; have HX2 := Lib.hid hex2; have HT2 := Lib.hid hth2; have HH2 := Lib.hid hch2; have hml : m ≤ n := (by have h1 := hex2.len; have h2 := List.length_filter_le (fun x : Xt => !decide (x.2 = 0)) xs; omega); clear hmC hex2 hth2 hch2)
    | (go_at_call 47; refine (sort_any 48 compares_join HE2.out A1 m C1 w.heap.size w1.heap.size _ w2 (by omega) HX2.out HT2.out HH2.out.size).mono ?_; rintro _ w3 ⟨rfl, d, hperm, hasc, hex3, hth3, hch3⟩; have HP := Lib.hid hperm; have HA := Lib.hid hasc; have HX3 := Lib.hid hex3; have HB3 := Lib.hid (HB1.out.trans ((HH2.out.trans hch3 (fun _ h => h) (fun _ h => h)).below HB1.out.size (fun j hj => hj.1))); have HS3 := Lib.hid (Nat.le_trans HH2.out.size hch3.size); clear hperm hasc hex3 hth3 hch3))
  clear HX2 HT2 HH2 HO1 HE1 HE2
  have hdl := HX3.out.len
  go_loopw [3, 14] (fun v i wr => ∃ (k : Nat) (V : Value) (ou : List Xt), v = V ∧ i = .int .i64 k ∧ k ≤ m ∧ joinL (d.take k) = ou ∧ Ow 45 w3 V ou wr) (fun _ i _ => m - (intOf i).toNat)
  case atStart => exact ⟨0, _, [], rfl, rfl, Nat.zero_le _, rfl, Ow.nil _ _⟩
  case round =>
    obtain ⟨k, V, ou, rfl, rfl, hk, hou, how⟩ := hrel
    have HOU := Lib.hid hou
    have HOW := Lib.hid how
    clear hou how
    by_cases hlt : k < m
    · have hltz : (k : Int) < (m : Int) := by omega
      obtain ⟨b, o, hA, hb1, hb2, -⟩ := HX3.out.at_ (by omega)
      obtain ⟨c0, c1⟩ := HX3.out.get hA (i := k) (by omega)
      have hxm := perm_may HP.out HM.out d[k] (List.getElem_mem _)
      have hgx : d[k]? = some d[k] := List.getElem?_eq_getElem (by omega)
      generalize d[k] = x at c0 c1 hxm hgx
      have HXM := Lib.hid hxm
      have HGX := Lib.hid hgx
      subst hA
      have hbw : b < w3.heap.size := Nat.lt_of_lt_of_le hb2 HS3.out
      rw [← HOW.out.be.cell (p := ⟨b, o + k * 2, none⟩) hbw] at c0
      rw [← HOW.out.be.cell (p := ⟨b, o + k * 2 + 1, none⟩) hbw] at c1
      clear hxm hgx
      obtain ⟨wb, hwb⟩ : ∃ wb, wb = wr.alloc (.cells #[.int .i64 x.1, .int .i64 x.2] 45) := ⟨_, rfl⟩
      have HWB := Lib.hid hwb
      have HW1 := Lib.hid (show Below wr.heap.size wr wb by rw [hwb]; exact below_new wr _)
      have HBX := Lib.hid (show Bx wb wr.heap.size 45 #[.int .i64 x.1, .int .i64 x.2] by rw [hwb]; exact Bx.new wr _ _)
      have x0 : wb.cell? ⟨wr.heap.size, 0, none⟩ = some (.int .i64 x.1) := HBX.out.cell 0
      have x1 : wb.cell? ⟨wr.heap.size, 1, none⟩ = some (.int .i64 x.2) := HBX.out.cell 1
      have HOB := Lib.hid (HOW.out.below HW1.out)
      clear hwb
      have hjs := joinL_snoc (d.take k) x
      have htk : d.take (k + 1) = d.take k ++ [x] := by rw [List.take_add_one, HGX.out]; rfl
      rw [HOU.out, ← htk] at hjs
      have HJS := Lib.hid hjs
      clear hjs htk
      rcases List.eq_nil_or_concat ou with rfl | ⟨pre, c, rfl⟩
      · obtain ⟨A', C', rfl, -, -, -⟩ := own_ex HOW.out.own
        simp only [List.length_nil] at HOB ⊢
        go_upto_region 8 with fail
        rw [← HWB.out]
        clear c0 c1
        go_quiet (fail)
        have HOC := Lib.hid (HOB.out.below (below_drewN (Below.refl wb.heap.size wb) nq))
        have HBC := Lib.hid (HBX.out.drewN nq)
        have HWC := Lib.hid (show Below wr.heap.size wr (wb.drewN nq) from below_more HW1.out (below_drewN (Below.refl wb.heap.size wb) nq))
        clear HBX HOB HW1 x0 x1
        generalize wb.drewN nq = wc at *
        have x0 : wc.cell? ⟨wr.heap.size, 0, none⟩ = some (.int .i64 x.1) := HBC.out.cell 0
        have x1 : wc.cell? ⟨wr.heap.size, 1, none⟩ = some (.int .i64 x.2) := HBC.out.cell 1
        have HOD := Lib.hid (HOC.out.below (below_new wc (.cells #[.int .i64 x.1, .int .i64 x.2] 45)))
        have hcs : (wc.alloc (.cells #[.int .i64 x.1, .int .i64 x.2] 45)).heap.size = wc.heap.size + 1 := by simp
        go_wp2_with (at_builtin; refine wp_app1 Tryd.underlying22 ext_info (by rfl) _ _ (by rfl) w3 _ [] x wc.heap.size (by rfl) (by rfl) HOD.out (Bx.new wc _ _) (by decide) ?_; intro V2 w4 how4; have HO4 := Lib.hid how4; clear how4)
        go_roundw
        case rel =>
          refine ⟨k + 1, V2, [x], rfl, by go_num, by omega, ?_, ?_⟩
          · rw [HJS.out]; rfl
          · exact HO4.out
        case measure => simp [intOf]; omega
      · rw [List.concat_eq_append] at *
        have hjd : Joined (d.take k) (joinL (d.take k)) := joinL_joined d k (by omega) HA.out (fun y hy => by
          obtain ⟨h1, h2⟩ := List.mem_filter.mp (HP.out.mem_iff.mp hy)
          have h3 := HM.out y h1
          unfold mayP at h3
          simp at h2
          omega)
        have hcm := joined_may (l := d.take k) ⟨hjd.sep, hjd.same⟩ (fun y hy => perm_may HP.out HM.out y (List.mem_of_mem_take hy)) c (by rw [HOU.out]; simp)
        have HCM := Lib.hid hcm.1
        clear hjd hcm
        obtain ⟨g, C', hV, hg1, hg2⟩ := HOB.out.own.form (by simp)
        subst hV
        have HGL := Lib.hid hg2
        obtain ⟨_, _, ev, -, hexo, htho⟩ := own_ex HOB.out.own
        cases ev
        obtain ⟨d0, d1⟩ := hexo.get rfl (i := pre.length) (by simp)
        simp only [List.getElem_concat_length, Nat.zero_add, List.length_append, List.length_singleton] at d0 d1 HOB HOW htho ⊢
        have f0 := htho (by omega) g 0 rfl (pre.length * 2 + 1)
        have hcx := HCM.out
        have hxx := HXM.out
        unfold mayP at hcx hxx
        have hwl : pre.length < 1000000 := by
          have := (joinL_joined d k (by omega) HA.out (fun y hy => by
            obtain ⟨h1, h2⟩ := List.mem_filter.mp (HP.out.mem_iff.mp hy)
            have h3 := HM.out y h1
            unfold mayP at h3
            simp at h2
            omega)).len
          rw [HOU.out] at this
          simp at this
          omega
        generalize hN : pre.length + 1 = N at *
        have HNL := Lib.hid hN
        have s1 : IntKind.i64.wrap ((N : Int) - 1) = pre.length := by rw [show (N : Int) - 1 = pre.length by omega]; exact IntWalk.i64_in _ (by omega)
        have s2 : wrap64 ((N : Int) - 1) = pre.length := by unfold wrap64; omega
        have s3 : (0 : Int) < (N : Int) := by omega
        have s4 : (pre.length : Int) < (N : Int) := by omega
        have s5 : (0 : Int) ≤ (pre.length : Int) := by omega
        have s6 : decide (0 < N) = true := by simp; omega
        have HLL := Lib.hid hwl
        clear hexo htho hg1 hg2 hwl hcx hxx hN
        generalize hL : pre.length = L at *
        have HL := Lib.hid hL
        clear hL
        by_cases hle : x.1 ≤ c.1 + c.2
        · go_upto_region 8 with fail
          rw [← HWB.out]
          clear c0 c1
          go_region_held3 (fun w' => w'.cell? ⟨wr.heap.size, 0, none⟩ = some (.int .i64 x.1) ∧ w'.cell? ⟨g, L * 2, none⟩ = some (.int .i64 c.1) ∧ w'.cell? ⟨g, L * 2 + 1, none⟩ = some (.int .i64 c.2))
            (first
              | (with_reducible exact ⟨y0, e0, e1⟩)
              | exact ⟨x0, d0, d1⟩)
            (first
              | (go_at_call 28; refine (end_any c _ HCM.out).mono ?_; rintro _ w4 ⟨rfl, hb4⟩; have hbw4 := below_more ((Below.refl _ wb).drew) hb4; have y0 := (hbw4.cell (p := ⟨wr.heap.size, 0, none⟩) HBX.out.lt).trans x0; have y1 := (hbw4.cell (p := ⟨wr.heap.size, 1, none⟩) HBX.out.lt).trans x1; have e0 := (hbw4.cell (p := ⟨g, L * 2, none⟩) HGL.out).trans d0; have e1 := (hbw4.cell (p := ⟨g, L * 2 + 1, none⟩) HGL.out).trans d1; have HB4 := Lib.hid hbw4; clear hb4 hbw4))
          have HOE := Lib.hid (HOB.out.below HB4.out)
          have lx4 := Nat.lt_of_lt_of_le HBX.out.lt HB4.out.size
          have lg4 := Nat.lt_of_lt_of_le HGL.out HB4.out.size
          have f4 := (HB4.out.frozen (p := ⟨g, L * 2 + 1, none⟩) HGL.out).trans f0
          clear x0 x1 d0 d1 f0
          have hcx := HCM.out
          have hxx := HXM.out
          unfold mayP at hcx hxx
          have s7 : wrap64 (max (x.1 + x.2) (c.1 + c.2) - c.1) = max (x.1 + x.2) (c.1 + c.2) - c.1 := by unfold wrap64; omega
          have s8 : IntKind.i64.wrap (max (x.1 + x.2) (c.1 + c.2) - c.1) = max (x.1 + x.2) (c.1 + c.2) - c.1 := IntWalk.i64_in _ (by omega)
          clear hcx hxx
          go_upto_region 9 with fail
          go_region_law (first
            | (go_simp; go_at_call 28; refine (end_any x _ HXM.out).mono ?_; rintro _ w5 ⟨rfl, hb5⟩; have hbw5 := below_more ((Below.refl _ w4).drew) hb5; have e05 := (hbw5.cell (p := ⟨g, L * 2, none⟩) lg4).trans e0; have e15 := (hbw5.cell (p := ⟨g, L * 2 + 1, none⟩) lg4).trans e1; have f5 := (hbw5.frozen (p := ⟨g, L * 2 + 1, none⟩) lg4).trans f4; have HB5 := Lib.hid hbw5; clear hb5 hbw5)
            | (go_simp; go_at_call 28; refine (end_any c _ HCM.out).mono ?_; rintro _ w6 ⟨rfl, hb6⟩; have hbw6 := below_more HB5.out hb6; have e06 := (hbw6.cell (p := ⟨g, L * 2, none⟩) lg4).trans e0; have e16 := (hbw6.cell (p := ⟨g, L * 2 + 1, none⟩) lg4).trans e1; have f6 := (hbw6.frozen (p := ⟨g, L * 2 + 1, none⟩) lg4).trans f4; have HB6 := Lib.hid hbw6; clear hb6 hbw6))
          all_goals
            have HSL := Lib.hid ((HOE.out.below HB6.out).last HNL.out HL.out (max (x.1 + x.2) (c.1 + c.2) - c.1))
            clear e0 e1 e05 e15 e06 e16 y0 y1 f4 f5 f6
            go_wp2
            go_roundw
            (case rel => exact ⟨k + 1, _, _, rfl, by go_num, by omega, by rw [HJS.out, jstep_snoc, if_pos hle], HSL.out⟩)
            (case measure => simp [intOf]; omega)
        · go_upto_region 8 with fail
          rw [← HWB.out]
          clear c0 c1
          have hlf : ¬ (x.1 ≤ c.1 + c.2) := hle
          go_region_held3 (fun w' => w'.cell? ⟨wr.heap.size, 0, none⟩ = some (.int .i64 x.1) ∧ w'.cell? ⟨g, L * 2, none⟩ = some (.int .i64 c.1) ∧ w'.cell? ⟨g, L * 2 + 1, none⟩ = some (.int .i64 c.2))
            (first
              | (with_reducible exact ⟨y0, e0, e1⟩)
              | exact ⟨x0, d0, d1⟩)
            (first
              | (go_at_call 28; refine (end_any c _ HCM.out).mono ?_; rintro _ w4 ⟨rfl, hb4⟩; have hbw4 := below_more ((Below.refl _ wb).drew) hb4; have y0 := (hbw4.cell (p := ⟨wr.heap.size, 0, none⟩) HBX.out.lt).trans x0; have y1 := (hbw4.cell (p := ⟨wr.heap.size, 1, none⟩) HBX.out.lt).trans x1; have e0 := (hbw4.cell (p := ⟨g, L * 2, none⟩) HGL.out).trans d0; have e1 := (hbw4.cell (p := ⟨g, L * 2 + 1, none⟩) HGL.out).trans d1; have HB4 := Lib.hid hbw4; clear hb4 hbw4))
          have HOE := Lib.hid (HOB.out.below HB4.out)
          clear x0 x1 d0 d1 f0 e0 e1
          have HOD := Lib.hid (HOE.out.below (below_new w4 (.cells #[.int .i64 x.1, .int .i64 x.2] 45)))
          go_wp2_with (at_builtin; refine wp_app1 Tryd.underlying22 ext_info (by rfl) _ _ (by rfl) w3 _ (pre ++ [c]) x w4.heap.size (by rfl) (by rfl) HOD.out (Bx.new w4 _ _) (by have := HL.out; have := HLL.out; simp; omega) ?_; intro V2 w5 how4; have HO4 := Lib.hid how4; clear how4)
          go_roundw
          case rel => exact ⟨k + 1, _, _, rfl, by go_num, by omega, by rw [HJS.out, jstep_snoc, if_neg (by omega)], HO4.out⟩
          case measure => simp [intOf]; omega
    · obtain rfl : k = m := by omega
      have hou := HOU.out
      rw [List.take_of_length_le (by omega)] at hou
      obtain ⟨hj1, hj2⟩ := isJoin_of_sorted (l := xs) (fun y hy => by have := HM.out y hy; unfold mayP at this; omega) HP.out HA.out
      rw [hou] at hj1 hj2
      have HJ1 := Lib.hid hj1
      have HJ2 := Lib.hid hj2
      obtain ⟨Af, Cf, hVe⟩ := own_form HOW.out.own
      subst hVe
      clear hj1 hj2 hou
      go_wp2
      go_ret
      exact ⟨_, ou, rfl, HJ1.out, by have := HJ2.out; omega, own_base HOW.out.own HB3.out.size, below_more HB3.out HOW.out.be⟩
end Go.Proofs.YtkdfafaiabidgaaDoor.X5
