/- The law HeapActs, the walk. -/
import Derived.Test.YtpajimkebnfneaaDoorNz
namespace Go.Proofs.YtpajimkebnfneaaDoor.X5
set_option linter.unusedVariables false
set_option linter.unusedSimpArgs false
open Go.RowKit Go.Maps Wd Ty9

theorem rowb_cap6 {w : World} {base : Nat} {V : Value} {bs : List Nat} (h : RowB w base V bs) : ∃ A c, V = .slice A bs.length c ∧ bs.length ≤ c ∧ Byt w w.heap.size A bs.length bs := by
  obtain ⟨A, c, rfl, hb⟩ := h.byt
  rcases h.own.2 with ⟨hv, h1⟩ | ⟨g, cap, cur, hv, _, _, hc, _⟩
  · injection hv with e1 e2 e3
    exact ⟨A, c, rfl, by omega, hb⟩
  · injection hv with e1 e2 e3
    exact ⟨A, c, rfl, by omega, hb⟩
theorem strOf_app6 (a b : List Nat) : Ty9.strOf (a ++ b) = Ty9.strOf a ++ Ty9.strOf b := by
  apply ByteArray.ext
  simp [Ty9.strOf]
theorem u8_next6 (v : Nat) : ∃ v2 : Nat, v2 < 256 ∧ IntKind.u8.wrap ((v : Int) + 1) = (v2 : Int) := by
  refine ⟨(v + 1) % 256, Nat.mod_lt _ (by omega), ?_⟩
  simp [IntKind.wrap, IntKind.bits, IntKind.signed]
/-- A row of acts: kind, number, bytes. -/
structure As (w : World) (A : Option Addr) (n : Nat) (ac : List (Int × Int × List Nat)) : Prop where
  len : ac.length = n
  at_ : ∃ (b o : Nat) (fA : Nat → Option Addr) (fC : Nat → Nat), (0 < n → A = some ⟨b, o, none⟩ ∧ b < w.heap.size) ∧ ∀ (i : Nat) (h : i < ac.length),
    w.cell? ⟨b, o + i * 3, none⟩ = some (.int .i64 ac[i].1) ∧ w.cell? ⟨b, o + i * 3 + 1, none⟩ = some (.int .i64 ac[i].2.1) ∧ w.cell? ⟨b, o + i * 3 + 2, none⟩ = some (.slice (fA i) ac[i].2.2.length (fC i)) ∧
    (-9223372036854775808 ≤ ac[i].2.1 ∧ ac[i].2.1 ≤ 9223372036854775807) ∧ ac[i].2.2.length ≤ fC i ∧ ac[i].2.2.length + 1 ≤ 140737488355328 ∧ Byt w w.heap.size (fA i) ac[i].2.2.length ac[i].2.2

set_option maxHeartbeats 8000000 in
set_option maxRecDepth 100000 in
theorem acts_walk (w : World) (hG : Gs w) (A : Option Addr) (n C : Nat) (ac : List (Int × Int × List Nat)) (hn : n ≤ 140737488355328) (h : As w A n ac) :
    Calls Tryd.prog 6 #[.slice A n C] w fun e w' => e = .returned (.bool true) ∧ Below w.heap.size w w' := by
  have HGS := Lib.hid hG
  have HA := Lib.hid h
  have HNW := Lib.hid (new_any w)
  clear h hG
  go_enter Tryd.func6, Tryd.ntmps6
  go_wp2_with (go_at_call 17; refine HNW.out.mono ?_; rintro _ w1 ⟨hb, S, rfl, hp, hS, hb1⟩; refine Hid.out ?_)
  have HQ0 := Lib.hid (Hq.start hb1 hp hS)
  have HB1 := Lib.hid hb1
  have HRL := Lib.hid hb1.size
  clear hp hS hb1 HNW
  refine go_on ?_
  go_wp2
  generalize hrb : w1.heap.size = rb at *
  generalize w1.alloc (.cells #[.slice none 0 0] 50) = w2 at *
  clear hrb HB1
  go_loopw [3, 5] (fun x i wr => ∃ (g k : Nat) (L M : List (Option (List Nat))), x = .pointer (some ⟨g, 0, none⟩) ∧ i = .int .i64 k ∧ k ≤ n ∧ k ≤ 40 ∧ Hq w wr g rb L M (fun _ => False) ∧ Sim L M ∧ Tr M ∧ L.length ≤ k) (fun _ i _ => n - (RowKit.intOf i).toNat)
  case atStart => exact ⟨hb, 0, [], [], rfl, rfl, Nat.zero_le _, by omega, HQ0.out, Sim.refl _, rfl, Nat.le_refl _⟩
  case round =>
    obtain ⟨g, k, L, M, rfl, rfl, hk, hk40, hq, hsi, htr, hll⟩ := hrel
    have HQ := Lib.hid hq
    have HSI := Lib.hid hsi
    have HTR := Lib.hid htr
    have HLL := Lib.hid hll
    clear hq hsi htr hll HQ0
    by_cases hlt : k < n ∧ k < 40
    · have hltz : (k : Int) < (n : Int) := by omega
      have hlt4 : (k : Int) < 40 := by omega
      have hk0 : (0 : Int) ≤ (k : Int) := by omega
      have hk9 : k < 40 := hlt.2
      have hal := HA.out.len
      obtain ⟨b, o, fA, fC, e1, e2⟩ := HA.out.at_
      obtain ⟨hAe, hbl⟩ := e1 (by omega)
      subst hAe
      obtain ⟨d1, d2, d3, d4, d5, d6, d7⟩ := e2 k (by omega)
      obtain ⟨⟨kd, id, x⟩, hx⟩ : ∃ x, ac[k]'(by omega) = x := ⟨_, rfl⟩
      rw [hx] at d1 d2 d3 d4 d5 d6 d7
      simp only at d1 d2 d3 d4 d5 d6 d7
      have HBX := Lib.hid (d7.later HQ.out.be)
      have HBX0 := Lib.hid d7
      have HI := Lib.hid d4
      have HXC := Lib.hid d5
      have HXL := Lib.hid d6
      have c1 : wr.cell? ⟨b, o + k * 3, none⟩ = some (.int .i64 kd) := (HQ.out.be.cell (p := ⟨b, o + k * 3, none⟩) hbl).trans d1
      have c2 : wr.cell? ⟨b, o + k * 3 + 1, none⟩ = some (.int .i64 id) := (HQ.out.be.cell (p := ⟨b, o + k * 3 + 1, none⟩) hbl).trans d2
      have c3 : wr.cell? ⟨b, o + k * 3 + 2, none⟩ = some (.slice (fA k) x.length (fC k)) := (HQ.out.be.cell (p := ⟨b, o + k * 3 + 2, none⟩) hbl).trans d3
      generalize fA k = X at *
      generalize fC k = cx at *
      clear e1 e2 d1 d2 d3 d4 d5 d6 d7 hx hal hlt
      obtain ⟨lx, hlx⟩ : ∃ lx, x.length = lx := ⟨_, rfl⟩
      have HLX := Lib.hid hlx
      rw [hlx] at HBX HBX0 HXC HXL c3
      clear hlx
      go_upto_region 8 with fail
      have HB3 := Lib.hid (below_new wr (.cells #[.int .i64 kd, .int .i64 id, .slice X lx cx] 52))
      have HX3 := Lib.hid (Bx.new wr 52 #[.int .i64 kd, .int .i64 id, .slice X lx cx])
      generalize wr.alloc (.cells #[.int .i64 kd, .int .i64 id, .slice X lx cx] 52) = w3 at *
      generalize hab : wr.heap.size = ab at *
      have HAB := Lib.hid hab
      have HABW := Lib.hid (show w.heap.size ≤ ab from hab ▸ HQ.out.be.size)
      have HQF := Lib.hid (show Hq w w3 g rb L M (fun k => ab ≤ k) from hab ▸ HQ.out.fresh.later (by rw [hab]; exact HB3.out))
      have HQ3 := Lib.hid (HQF.out.weak (Z' := fun k => k = ab) (fun k _ e => by omega))
      have HBX3 := Lib.hid ((HBX.out.later (HB3.out.mono (by have := HQ.out.be.size; omega))).up HQ3.out.be.size)
      have d0 := HX3.out.cell 0
      have d1 := HX3.out.cell 1
      have d2 := HX3.out.cell 2
      clear c1 c2 c3 hab HBX HQ HB3
      by_cases k0 : kd = 0
      · subst k0
        have HLM := Lib.hid (show L.length ≤ 40 ∧ M.length ≤ 40 by have h1 := HLL.out; have h2 := HSI.out.len; omega)
        have HR1 := Lib.hid (RowB.lit w3 [] (fun x h => absurd h (List.not_mem_nil)) (by simp) (Nat.le_refl w3.heap.size))
        have HA1 := Lib.hid (below_new w3 (.cells (by8 []).toArray 5))
        have HBA := Lib.hid (HBX3.out.later HA1.out)
        have d3 : (w3.alloc (.cells #[] 5)).cell? ⟨ab, 2, none⟩ = some (.slice X lx cx) := (HA1.out.cell (p := ⟨ab, 2, none⟩) HX3.out.lt).trans d2
        go_upto_region 10 with fail
        go_wp2_with (at_builtin; refine wp_rowb rfl (.tmp 41) (.tmp 43) rfl w3.heap.size lx cx _ [] x X w3.heap.size rfl rfl HR1.out HBA.out (by have := HXL.out; show 0 + lx ≤ _; omega) HA1.out.size ?_; intro V4 w4 hrow4 hb4; refine Hid.out ?_)
        rw [List.nil_append] at hrow4
        have HB4 := Lib.hid (HA1.out.trans hb4)
        obtain ⟨A4, C4, hV⟩ := own_form hrow4.own
        rw [HLX.out] at hV
        subst hV
        have HR4 := Lib.hid (hrow4.below (below_new w4 (.cells (by8 [90]).toArray 5)))
        have HY4 := Lib.hid (Byt.lit w4 [90] (by decide))
        have HA4 := Lib.hid (below_new w4 (.cells (by8 [90]).toArray 5))
        clear hrow4 hb4 HR1 HA1 HBA
        refine go_on ?_
        go_wp2_with (at_builtin; refine wp_rowb rfl (.tmp 44) (.tmp 45) rfl w3.heap.size 1 1 _ x [90] (some ⟨w4.heap.size, 0, none⟩) _ rfl rfl HR4.out HY4.out (by have h1 := HXL.out; have h2 := HLX.out; omega) (Nat.le_trans HB4.out.size HA4.out.size) ?_; intro V5 w5 hrow5 hb5; refine Hid.out ?_)
        have HB5 := Lib.hid (HB4.out.trans ((HA4.out.mono HB4.out.size).trans hb5))
        have hl5 : (x ++ [90]).length = lx + 1 := by rw [List.length_append, HLX.out]; rfl
        have hown5 := hrow5.own
        rw [hl5] at hown5
        obtain ⟨g0, C5, hV, hg1, hg2⟩ := hown5.form (by omega)
        subst hV
        have HC5 := Lib.hid hown5
        have HLT5 := Lib.hid hrow5.lt
        have HG5 := Lib.hid (hown5.lt g0 rfl)
        obtain ⟨_, _, e5, hc5, hby5⟩ := rowb_cap6 hrow5
        rw [hl5] at e5 hc5 hby5
        injection e5 with e5 _ e6
        subst e5 e6
        have HY5 := Lib.hid hby5
        have HYP := Lib.hid (show Byt w5 w5.heap.size (some ⟨g0, 0, none⟩) lx x by
          have h1 := byt_pre hby5 (k := lx) (by omega)
          rw [List.take_append_of_le_length (by rw [HLX.out]; exact Nat.le_refl _), List.take_of_length_le (by rw [HLX.out]; exact Nat.le_refl _)] at h1
          exact h1)
        have HQ5 := Lib.hid ((HQF.out.later HB5.out).weak (Z' := fun k => k = ab ∨ k = g0) (fun k _ e => by have h1 := HG5.out.1; have h2 := HX3.out.lt; rcases e with e | e <;> omega))
        have HZ5 := Lib.hid (show ∀ k, (k = ab ∨ k = g0) → k < w5.heap.size from fun k e => by have h1 := HG5.out.2; have h2 := HX3.out.lt; have h3 := HB5.out.size; rcases e with e | e <;> omega)
        have HX5 := Lib.hid (HX3.out.later HB5.out HX3.out.lt)
        have hx : x.length = lx := HLX.out
        have HP := Lib.hid (show Calls Tryd.prog 8 #[.pointer (some ⟨g, 0, none⟩), .slice (some ⟨g0, 0, none⟩) lx C5] w5 _ from hx ▸ HQ5.out.padd HZ5.out (by have := HLM.out; omega) (d := C5) (by rw [hx]; exact HYP.out))
        have hI : addI L x = addI M x := by unfold addI; rw [HSI.out.hole]
        rw [hI] at HP
        have HSI2 := Lib.hid (HSI.out.add x)
        have HTR2 := Lib.hid (tr_add HTR.out x)
        have HLL2 := Lib.hid (show (addL L x).length ≤ k + 1 by have h1 := addL_len L x; have h2 := HLL.out; omega)
        have HR := Lib.hid (show ∀ (W : World) (L' : List (Option (List Nat))), Hq w W g rb L' M (fun k => k = ab ∨ k = g0) → w5.heap.size ≤ W.heap.size → Calls Tryd.prog 18 #[.pointer (some ⟨rb, 0, none⟩), .slice X lx cx] W _ from fun W L' hq hs => hx ▸ hq.radd (fun k hk => Nat.lt_of_lt_of_le (HZ5.out k hk) hs) (by have := HLM.out; omega) (d := cx) (by rw [hx]; exact (HBX0.out.later hq.be).up hq.be.size))
        have c1 := HX5.out.cell 2
        have k1 : (0 : Int) ≤ (lx : Int) := by omega
        have k2 : (lx : Int) ≤ (C5 : Int) := by omega
        have n1 : (addI M x != addI M x) = false := by simp
        have n2 : (addE x != addE x) = false := by simp
        generalize addI M x = ai at *
        generalize addE x = ae at *
        generalize hL2 : addL L x = L2 at *
        generalize hM2 : addL M x = M2 at *
        clear hrow5 hb5 hc5 hby5 hl5 hown5 HR4 HY4 HA4 hI hx hL2 hM2 d0 d1 d2 d3 hg1 hg2
        refine go_on ?_
        go_wp2_with (go_at_call 8; refine HP.out.mono ?_; rintro _ w6 ⟨rfl, hq6, hk6⟩; refine Hid.out ?_)
        have HQ6 := Lib.hid hq6
        have HK6 := Lib.hid hk6
        have HX6 := Lib.hid (show Bx w6 ab 52 #[.int .i64 0, .int .i64 id, .slice X lx cx] from (hk6.2 ab HX5.out.lt (.inl rfl)).trans HX5.out)
        have HR6 := Lib.hid (HR.out w6 L2 HQ6.out hk6.1)
        clear hq6 hk6 c1 HP HR
        have c1 := HX6.out.cell 2
        refine go_on ?_
        go_wp2_with (go_at_call 18; refine HR6.out.mono ?_; rintro _ w7 ⟨rfl, hq7, hk7⟩; refine Hid.out ?_)
        have HQ7 := Lib.hid hq7
        have HG7 := Lib.hid (show w7.heap[g0]? = w5.heap[g0]? from (hk7.2 g0 (Nat.lt_of_lt_of_le HG5.out.2 HK6.out.1) (.inr rfl)).trans (HK6.out.2 g0 HG5.out.2 (.inr rfl)))
        have HS7 := Lib.hid (Nat.le_trans HK6.out.1 hk7.1)
        have HX7 := Lib.hid (show Bx w7 ab 52 #[.int .i64 0, .int .i64 id, .slice X lx cx] from (hk7.2 ab HX6.out.lt (.inl rfl)).trans HX6.out)
        have HC7 := Lib.hid (show w7.ownsRow w3.heap.size 5 1 (.slice (some ⟨g0, 0, none⟩) (lx + 1) C5) (lx + 1) (by8 (x ++ [90])) from ownsRow_block HC5.out (fun q hq => by
          have e : g0 = q := by injection hq
          exact e ▸ HG7.out))
        clear hq7 hk7 c1 HR6
        have c1 := HX7.out.cell 2
        have hcv1 := conv_bytes (Byt.of_own HC7.out HLT5.out) C5
        have hcv2 := conv_bytes (HBX0.out.later HQ7.out.be) cx
        rw [strOf_app6, show Ty9.strOf [90] = (⟨#[90]⟩ : ByteArray) from rfl] at hcv1
        obtain ⟨ss, hss⟩ : ∃ ss, Ty9.strOf x = ss := ⟨_, rfl⟩
        rw [hss] at hcv1 hcv2
        have zs : ((ss ++ (⟨#[90]⟩ : ByteArray)).toList != (ss ++ (⟨#[90]⟩ : ByteArray)).toList) = false := by simp
        have hsz : ¬ (9223372036854775807 < ss.size + 1) := by
          have h1 : ss.size = x.length := by rw [← hss]; simp [Ty9.strOf, ByteArray.size]
          have h2 := HXL.out
          have h3 := HLX.out
          omega
        clear hss
        obtain ⟨v0, hv0⟩ : ∃ v0, (x ++ [90])[0]? = some v0 := ⟨_, List.getElem?_eq_getElem (by simp)⟩
        have cv : w7.cell? ⟨g0, 0, none⟩ = some (.int .u8 (v0 : Int)) := by
          rw [HC7.out.cellAt 0 (by omega)]
          simp only [by8, List.getElem?_map, hv0]; rfl
        have cf : w7.frozen? ⟨g0, 0, none⟩ = false := HC7.out.frozenAt 0
        obtain ⟨v2, hv2, hvw⟩ := u8_next6 v0
        have HQ8 := Lib.hid (show Hq w (w7.setCell ⟨g0, 0, none⟩ (.int .u8 (v2 : Int))) g rb L2 M2 (fun k => k = ab ∨ k = g0) from HQ7.out.turn ⟨rfl, rfl, rfl, by simp [World.setCell], fun q hq hn => Below.heap_setCell _ _ _ _ (fun e => hn (.inr e))⟩ (fun q hq => by
          have h1 := HG5.out.1
          have h2 := HQ3.out.be.size
          have h3 := HABW.out
          rcases hq with rfl | rfl <;> omega))
        clear hv0 hv2
        refine go_on ?_
        have HAL := Lib.hid (HQ8.out.alike HSI2.out HTR2.out (by have := HLL2.out; omega) (HGS.out.later HQ8.out.be (Nat.le_refl _)))
        go_wp2_with (go_at_call 21; refine HAL.out.mono ?_; rintro _ w9 ⟨rfl, hq9⟩; have HQ9 := Lib.hid (hq9.weak (Z' := fun _ => False) (fun _ _ h => h.elim)); clear hq9)
        go_roundw
        case rel => exact ⟨g, k + 1, L2, M2, rfl, by go_num, by omega, by omega, HQ9.out, HSI2.out, HTR2.out, HLL2.out⟩
        case measure => simp [RowKit.intOf]; omega
      have k0' : (kd == 0) = false := beq_eq_false_iff_ne.mpr k0
      by_cases k1 : kd = 1
      · subst k1
        have HLM := Lib.hid (show L.length ≤ 40 ∧ M.length ≤ 40 by have h1 := HLL.out; have h2 := HSI.out.len; omega)
        have HP := Lib.hid (HQ3.out.pget (by have := HLM.out; omega) HI.out.1 HI.out.2)
        have HR := Lib.hid (fun (W : World) (hq : Hq w W g rb L M (fun k => k = ab)) => hq.rget (by have := HLM.out; omega) HI.out.1 HI.out.2)
        obtain ⟨e1, e2⟩ := HSI.out.drops id
        rw [e1, e2] at HP
        clear e1 e2
        generalize dropE M id = de at *
        generalize getZ M id = gz at *
        have n1 : (de != de) = false := by simp
        have n2 : ((Ty9.strOf gz).toList != (Ty9.strOf gz).toList) = false := by simp
        clear k0
        go_wp2_with (go_at_call 9; refine HP.out.mono ?_; rintro _ w4 ⟨A4, m4, C4, rfl, hy4, hb4⟩; refine Hid.out ?_)
        have HQ4 := Lib.hid (HQ3.out.later hb4)
        have HY4 := Lib.hid hy4
        have HR4 := Lib.hid (HR.out w4 HQ4.out)
        have HX4 := Lib.hid (HX3.out.later hb4 HX3.out.lt)
        clear d0 d1 d2 hy4 hb4 HP HR
        have d1 := HX4.out.cell 1
        refine go_on ?_
        go_wp2_with (go_at_call 19; refine HR4.out.mono ?_; rintro _ w5 ⟨A5, m5, C5, rfl, hy5, hb5⟩; refine Hid.out ?_)
        have HQ5 := Lib.hid (HQ4.out.later hb5)
        have hcv1 := conv_bytes (HY4.out.later hb5) C4
        have hcv2 := conv_bytes hy5 C5
        generalize Ty9.strOf gz = sg at *
        clear hy5 hb5 HR4 HY4 d1
        refine go_on ?_
        have HAL := Lib.hid (HQ5.out.alike HSI.out HTR.out (by have := HLL.out; omega) (HGS.out.later HQ5.out.be (Nat.le_refl _)))
        go_wp2_with (go_at_call 21; refine HAL.out.mono ?_; rintro _ w9 ⟨rfl, hq9⟩; have HQ9 := Lib.hid (hq9.weak (Z' := fun _ => False) (fun _ _ h => h.elim)); clear hq9)
        go_roundw
        case rel => exact ⟨g, k + 1, L, M, rfl, by go_num, by omega, by omega, HQ9.out, HSI.out, HTR.out, by have := HLL.out; omega⟩
        case measure => simp [RowKit.intOf]; omega
      have k1' : (kd == 1) = false := beq_eq_false_iff_ne.mpr k1
      by_cases k2 : kd = 2
      · subst k2
        have HLM := Lib.hid (show L.length ≤ 40 ∧ M.length ≤ 40 by have h1 := HLL.out; have h2 := HSI.out.len; omega)
        have HP := Lib.hid (fun (W : World) (M' : List (Option (List Nat))) (hq : Hq w W g rb L M' (fun k => k = ab)) => hq.pdrop (by have := HLM.out; omega) HI.out.1 HI.out.2)
        have HR := Lib.hid (fun (W : World) (L' : List (Option (List Nat))) (hq : Hq w W g rb L' M (fun k => k = ab)) => hq.rdrop (by have := HLM.out; omega) HI.out.1 HI.out.2)
        obtain ⟨e1, e2⟩ := HSI.out.drops id
        rw [e1] at HP
        clear e1 e2
        have HSI2 := Lib.hid (HSI.out.drop id)
        have HTR2 := Lib.hid (tr_drop HTR.out id)
        have HLL2 := Lib.hid (show (dropL L id).length ≤ k by rw [dropL_len]; exact HLL.out)
        generalize dropE M id = de at *
        generalize hL2 : dropL L id = L2 at *
        generalize hM2 : dropM M id = M2 at *
        clear hL2 hM2
        have n1 : (de != de) = false := by simp
        clear k0 k1
        go_wp2
        go_upto_region 22 with fail
        go_region_held3 (fun W => W.cell? ⟨ab, 1, none⟩ = some (.int .i64 id))
          (first
            | (with_reducible exact e2)
            | (with_reducible exact e1)
            | (with_reducible exact d1)
            | go_keep)
          (first
            | (go_at_call 10; refine (HP.out _ M (HQ3.out.later ((Below.refl _ _).drew))).mono ?_; rintro _ w4 ⟨rfl, hq4, hk4⟩; have HQ4 := Lib.hid hq4; have HX4 := Lib.hid (show Bx w4 ab 52 #[.int .i64 2, .int .i64 id, .slice X lx cx] from (hk4.2 ab HX3.out.lt rfl).trans HX3.out); have HR4 := Lib.hid (HR.out w4 L2 HQ4.out); clear hq4 hk4; have e1 := HX4.out.cell 1)
            | (go_at_call 20; refine HR4.out.mono ?_; rintro _ w5 ⟨rfl, hq5, hk5⟩; have HQ5 := Lib.hid hq5; have HX5 := Lib.hid (show Bx w5 ab 52 #[.int .i64 2, .int .i64 id, .slice X lx cx] from (hk5.2 ab HX4.out.lt rfl).trans HX4.out); have e2 := HX5.out.cell 1; clear hq5 hk5))
        clear d0 d1 d2
        have HAL := Lib.hid (HQ5.out.alike HSI2.out HTR2.out (by have := HLL2.out; omega) (HGS.out.later HQ5.out.be (Nat.le_refl _)))
        go_wp2_with (go_at_call 21; refine HAL.out.mono ?_; rintro _ w9 ⟨rfl, hq9⟩; have HQ9 := Lib.hid (hq9.weak (Z' := fun _ => False) (fun _ _ h => h.elim)); clear hq9)
        go_roundw
        case rel => exact ⟨g, k + 1, L2, M2, rfl, by go_num, by omega, by omega, HQ9.out, HSI2.out, HTR2.out, by have := HLL2.out; omega⟩
        case measure => simp [RowKit.intOf]; omega
      have k2' : (kd == 2) = false := beq_eq_false_iff_ne.mpr k2
      by_cases k3 : kd = 3
      · subst k3
        have HP := Lib.hid (HQ3.out.pbytes (by have := HLL.out; omega) (HGS.out.later HQ3.out.be (Nat.le_refl _)))
        have HSM := Lib.hid HQ3.out.small
        clear k0 k1 k2
        go_wp2_with (go_at_call 13; refine HP.out.mono ?_; rintro _ w4 ⟨V4, rfl, hr4, hb4⟩; refine Hid.out ?_)
        obtain ⟨A4, C4, rfl, hcp, hy4⟩ := rowb_cap6 hr4
        have HQ4 := Lib.hid (HQ3.out.later hb4)
        have HLD := Lib.hid (load_good L HSM.out (by have := HLL.out; omega) A4 _ C4 w4 hcp hy4 (HGS.out.later HQ4.out.be (Nat.le_refl _)))
        have HTM := Lib.hid (HSI.out.trim HTR.out)
        rw [HTM.out] at HLD
        have HLM := Lib.hid (show M.length ≤ k by have h1 := HLL.out; have h2 := HSI.out.len; omega)
        generalize (sealL (heapB L)).length = lb at *
        clear hr4 hb4 hcp hy4 HP d0 d1 d2
        refine go_on ?_
        go_wp2_with (go_at_call 16; refine HLD.out.mono ?_; rintro _ w5 ⟨g5, S5, rfl, hp5, hS5, hb5⟩; refine Hid.out ?_)
        have HQ5 := Lib.hid (HQ4.out.other hb5 hp5 hS5)
        clear hp5 hS5 hb5 HLD
        refine go_on ?_
        have HSR := Lib.hid (Sim.refl M)
        have HAL := Lib.hid (HQ5.out.alike HSR.out HTR.out (by have := HLM.out; omega) (HGS.out.later HQ5.out.be (Nat.le_refl _)))
        go_wp2_with (go_at_call 21; refine HAL.out.mono ?_; rintro _ w9 ⟨rfl, hq9⟩; have HQ9 := Lib.hid (hq9.weak (Z' := fun _ => False) (fun _ _ h => h.elim)); clear hq9)
        go_roundw
        case rel => exact ⟨g5, k + 1, M, M, rfl, by go_num, by omega, by omega, HQ9.out, HSR.out, HTR.out, by have := HLM.out; omega⟩
        case measure => simp [RowKit.intOf]; omega
      have k3' : (kd == 3) = false := beq_eq_false_iff_ne.mpr k3
      clear k0 k1 k2 k3
      have HAL := Lib.hid (HQ3.out.alike HSI.out HTR.out (by have := HLL.out; omega) (HGS.out.later HQ3.out.be (Nat.le_refl _)))
      go_wp2_with (go_at_call 21; refine HAL.out.mono ?_; rintro _ w4 ⟨rfl, hq4⟩; have HQ4 := Lib.hid (hq4.weak (Z' := fun _ => False) (fun _ _ h => h.elim)); clear hq4)
      go_roundw
      case rel => exact ⟨g, k + 1, L, M, rfl, by go_num, by omega, by omega, HQ4.out, HSI.out, HTR.out, by have := HLL.out; omega⟩
      case measure => simp [RowKit.intOf]; omega
    · have HLV := Lib.hid (lives6_any wr (HGS.out.later HQ.out.be (Nat.le_refl _)))
      have HBE := Lib.hid HQ.out.be
      by_cases hkn : k < n
      · obtain rfl : k = 40 := by omega
        have hltz : (40 : Int) < (n : Int) := by omega
        clear hlt hkn hk
        go_wp2_with (go_at_call 14; refine HLV.out.mono ?_; rintro _ w4 ⟨rfl, hb4⟩; have HB4 := Lib.hid (below_more HBE.out hb4); clear hb4)
        go_ret
        exact ⟨rfl, HB4.out⟩
      · obtain rfl : k = n := by omega
        clear hlt hkn hk
        go_wp2_with (go_at_call 14; refine HLV.out.mono ?_; rintro _ w4 ⟨rfl, hb4⟩; have HB4 := Lib.hid (below_more HBE.out hb4); clear hb4)
        go_ret
        exact ⟨rfl, HB4.out⟩
end Go.Proofs.YtpajimkebnfneaaDoor.X5
