/- The numbers within a turned type; the walk of DatatypeKeeps. -/
import Derived.Test.YtbdhihgokkcmfaaHe
import Derived.Test.YtbdhihgokkcmfaaPl
import Derived.Test.YtbdhihgokkcmfaaLi
import Derived.Test.YtbdhihgokkcmfaaPo
import Derived.Test.YtbdhihgokkcmfaaAa
namespace Go.Proofs.Ytbdhihgokkcmfaa.Ty9
set_option linter.unusedVariables false
set_option linter.unusedSimpArgs false
open Go.RowKit Wd

/-- A number in one order. -/
def Pl.turn (bg : Bool) (x : Pl) : Pl := ⟨x.pos, x.c, x.w, bg⟩
theorem reps_map (g : Pl → Pl) : ∀ (n : Nat) (s : Int) (f h : Int → List Pl) (p : Int), (∀ q, f q = (h q).map g) → reps n s f p = (reps n s h p).map g
  | 0, _, _, _, _, _ => rfl
  | n + 1, s, f, h, p, hf => by rw [reps, reps, List.map_append, hf, reps_map g n s f h (p + s) hf]
theorem pls_num {t : Ty} (h5 : t.c ≠ 5) (h6 : t.c ≠ 6) (h7 : t.c ≠ 7) (p : Int) : pls t p = if t.c = 4 then [⟨p, 3, t.w, t.big⟩, ⟨p + t.w, 3, t.w, t.big⟩] else [⟨p, t.c, t.w, t.big⟩] := by
  cases t with
  | mk c w b fs ds bs ns =>
    change c ≠ 5 at h5
    change c ≠ 6 at h6
    change c ≠ 7 at h7
    rw [pls, if_neg h5, if_neg h6, if_neg h7]
    rfl
theorem pls_tn (bg : Bool) (d : Nat) : d ≤ 4 → ∀ (t : Ty) (p : Int), sz d t ≠ 0 → pls (tn bg t) p = (pls t p).map (Pl.turn bg) := by
  induction d with
  | zero => intro _ t p h; exact absurd rfl h
  | succ d ih =>
    intro hd t p h
    have ih := ih (by omega)
    by_cases h5 : t.c = 5
    · obtain ⟨e, hw, hw2, hbig, hl, hf1, hf2, hfl⟩ := sz_comp h5 h
      rw [pls_comp h5, pls_comp (by rw [tn_c]; exact h5), tn_fs]
      have hh : ∀ (fs : List Fd) pre (e : Int), flds (sz d) t.w fs pre e ≠ 0 → plf (fs.map (tnF bg)) p = (plf fs p).map (Pl.turn bg) := by
        intro fs
        induction fs with
        | nil => intro pre e _; rfl
        | cons f fs ihf =>
          intro pre e hne
          obtain ⟨h1, h2, h3, h4, h5', h6'⟩ := flds_cons hne
          rw [List.map_cons, plf_cons, plf_cons, List.map_append, ihf _ _ h6']
          have : pls (tnF bg f).ty (p + (tnF bg f).pos) = (pls f.ty (p + f.pos)).map (Pl.turn bg) := ih f.ty (p + f.pos) h1
          rw [this]
      exact hh t.fs [] 0 (by omega)
    by_cases h6 : t.c = 6
    · obtain ⟨b, hb, hb0, e, hp, hbig, hw, hl, hd1, hd2, hdm⟩ := sz_arr h6 h
      rw [pls_arr h6 hb, pls_arr (b := tn bg b) (by rw [tn_c]; exact h6) (by rw [tn_bs, hb]; rfl), tn_ds, sz_tn]
      exact reps_map _ _ _ _ _ _ (fun q => ih b q hb0)
    by_cases h7 : t.c = 7
    · obtain ⟨b, hb, hbc, hn, e, hd1, hbig, hw, hl, hn1, hn2, hm⟩ := sz_enum h7 h
      rw [pls_enum h7 hb, pls_enum (b := tn bg b) (by rw [tn_c]; exact h7) (by rw [tn_bs, hb]; rfl), pls_num (by rw [tn_c]; omega) (by rw [tn_c]; omega) (by rw [tn_c]; omega), pls_num (by omega) (by omega) (by omega), tn_c, tn_w, tn_big, if_pos (show b.c ≤ 4 by omega)]
      split <;> rfl
    · obtain ⟨hn, e⟩ := sz_nums h5 h6 h7 h
      have := (numB_iff t).mp hn
      rw [pls_num (by rw [tn_c]; exact h5) (by rw [tn_c]; exact h6) (by rw [tn_c]; exact h7), pls_num h5 h6 h7, tn_c, tn_w, tn_big, if_pos (show t.c ≤ 4 by omega)]
      split <;> rfl

theorem place_at2 {w : World} {base g cap n : Nat} {e : TypeId} {xs : List Pl} (h : w.ownsRow base e 4 (.slice (some ⟨g, 0, none⟩) n cap) n (xs.flatMap Pl.cells)) {k : Nat} (hk : k < xs.length) :
    w.cell? ⟨g, k * 4, none⟩ = some (.int .i64 xs[k].pos) ∧ w.cell? ⟨g, k * 4 + 1, none⟩ = some (.int .i64 xs[k].c) ∧ w.cell? ⟨g, k * 4 + 2, none⟩ = some (.int .i64 xs[k].w) ∧ w.cell? ⟨g, k * 4 + 3, none⟩ = some (.bool xs[k].big) := by
  have hc : ∀ j u, j < 4 → xs[k].cells[j]? = some u → w.cell? ⟨g, k * 4 + j, none⟩ = some u := by
    intro j u hj hu
    have := h.cells (g := g) rfl (k * 4 + j) u (by rw [cells_at hk j hj]; exact hu)
    have hadd : (⟨g, 0, none⟩ : Addr).add (k * 4 + j) = ⟨g, k * 4 + j, none⟩ := by unfold Addr.add; split <;> simp_all
    rwa [hadd] at this
  exact ⟨hc 0 _ (by omega) rfl, hc 1 _ (by omega) rfl, hc 2 _ (by omega) rfl, hc 3 _ (by omega) rfl⟩

set_option maxHeartbeats 4000000 in
set_option maxRecDepth 100000 in
theorem keeps_walk (t : Ty) (v : Value) (bg : Bool) (w : World) (ht : TyAt w w.heap.size t v) (hfit : Fit t) :
    Calls Try.prog 9 #[v, .bool bg] w fun e w' => e = .returned (.bool true) ∧ Below w.heap.size w w' := by
  obtain ⟨fA, dA, bA, nA, fC, dC, bC, nC, rfl⟩ := ht.shape
  have HBW := Lib.hid (below_new w (.cells #[.int .i64 t.c, .int .i64 t.w, .bool t.big, .slice fA t.fs.length fC, .slice dA t.ds.length dC, .slice bA t.bs.length bC, .slice nA t.ns.length nC] 28))
  have HYt1 := Lib.hid ((ht.later (below_new w (.cells #[.int .i64 t.c, .int .i64 t.w, .bool t.big, .slice fA t.fs.length fC, .slice dA t.ds.length dC, .slice bA t.bs.length bC, .slice nA t.ns.length nC] 28))).up (below_new w (.cells #[.int .i64 t.c, .int .i64 t.w, .bool t.big, .slice fA t.fs.length fC, .slice dA t.ds.length dC, .slice bA t.bs.length bC, .slice nA t.ns.length nC] 28)).size)
  have HBt1 := Lib.hid (Bx.new w 28 #[.int .i64 t.c, .int .i64 t.w, .bool t.big, .slice fA t.fs.length fC, .slice dA t.ds.length dC, .slice bA t.bs.length bC, .slice nA t.ns.length nC])
  have HFIT := Lib.hid hfit
  clear ht hfit
  by_cases hbig : t.left 2000 ≤ 0
  · have HBG := Lib.hid (decide_eq_true hbig)
    clear hbig
    go_enter Try.func9, Try.ntmps9
    go_wp2_with (go_at_call 12; refine (big_any t _ _ ?_).mono ?_)
    · exact HYt1.out
    rintro _ w2 ⟨he, hb2⟩
    rw [HBG.out] at he
    subst he
    have HW := Lib.hid (below_more (below_new _ _) hb2)
    clear hb2
    go_wp2_with (go_at_call 13; refine (lives_any _).mono ?_)
    rintro _ w3 ⟨rfl, hb3⟩
    have HW3 := Lib.hid (below_more HW.out hb3)
    clear hb3
    go_wp2
    go_ret
    exact ⟨rfl, HW3.out⟩
  have HBG := Lib.hid (decide_eq_false hbig)
  clear hbig
  by_cases hz : sz 4 t = 0
  · have HEV := Lib.hid (show errV t = 15 from if_pos hz)
    have HTT := Lib.hid (show tT bg t = zeroT from if_pos hz)
    clear hz
    go_enter Try.func9, Try.ntmps9
    go_wp2_with (go_at_call 12; refine (big_any t _ _ ?_).mono ?_)
    · exact HYt1.out
    rintro _ w2 ⟨he, hb⟩
    rw [HBG.out] at he
    subst he
    have HW2 := Lib.hid (below_more HBW.out hb)
    have HBt2 := Lib.hid (HBt1.out.later hb (by simp))
    have HYt2 := Lib.hid ((HYt1.out.later hb).up hb.size)
    clear HBt1 HYt1
    clear hb
    have c0 : w2.cell? ⟨w.heap.size, 0, none⟩ = some (.int .i64 t.c) := HBt2.out.cell 0
    have c1 : w2.cell? ⟨w.heap.size, 1, none⟩ = some (.int .i64 t.w) := HBt2.out.cell 1
    have c2 : w2.cell? ⟨w.heap.size, 2, none⟩ = some (.bool t.big) := HBt2.out.cell 2
    have c3 : w2.cell? ⟨w.heap.size, 3, none⟩ = some (.slice fA t.fs.length fC) := HBt2.out.cell 3
    have c4 : w2.cell? ⟨w.heap.size, 4, none⟩ = some (.slice dA t.ds.length dC) := HBt2.out.cell 4
    have c5 : w2.cell? ⟨w.heap.size, 5, none⟩ = some (.slice bA t.bs.length bC) := HBt2.out.cell 5
    have c6 : w2.cell? ⟨w.heap.size, 6, none⟩ = some (.slice nA t.ns.length nC) := HBt2.out.cell 6
    go_wp2_with (go_at_call 23; refine (pturn_any bg t HFIT.out _ w2 HYt2.out).mono ?_)
    first
      | rintro _ w3 u rfl hsg hb
      | rintro _ w3 ⟨u, rfl, hsg, hb⟩
    rw [HTT.out] at hsg
    rw [HEV.out]
    obtain ⟨T, hT⟩ : ∃ T, zeroT = T := ⟨_, rfl⟩
    rw [hT] at hsg
    clear hT
    obtain ⟨fA8, dA8, bA8, nA8, fC8, dC8, bC8, nC8, rfl⟩ := (hsg.ty (Nat.le_refl _)).shape
    have HW3 := Lib.hid (below_more HW2.out hb)
    have HBt3 := Lib.hid (HBt2.out.later hb HBt2.out.lt)
    have HYt3 := Lib.hid ((HYt2.out.later hb).up hb.size)
    clear HW2 HBt2 HYt2
    clear hb hsg
    clear c0 c1 c2 c3 c4 c5 c6
    go_upto_region 4 with fail
    have hn := below_new w3 (.cells #[.int .i64 T.c, .int .i64 T.w, .bool T.big, .slice fA8 T.fs.length fC8, .slice dA8 T.ds.length dC8, .slice bA8 T.bs.length bC8, .slice nA8 T.ns.length nC8] 28)
    have hx := Bx.new w3 28 #[.int .i64 T.c, .int .i64 T.w, .bool T.big, .slice fA8 T.fs.length fC8, .slice dA8 T.ds.length dC8, .slice bA8 T.bs.length bC8, .slice nA8 T.ns.length nC8]
    generalize hw : (w3.alloc (.cells #[.int .i64 T.c, .int .i64 T.w, .bool T.big, .slice fA8 T.fs.length fC8, .slice dA8 T.ds.length dC8, .slice bA8 T.bs.length bC8, .slice nA8 T.ns.length nC8] 28)) = w4 at hn hx
    clear hw
    have HW4 := Lib.hid (below_more HW3.out hn)
    have HBt4 := Lib.hid (HBt3.out.later hn HBt3.out.lt)
    have HYt4 := Lib.hid ((HYt3.out.later hn).up hn.size)
    clear HW3 HBt3 HYt3
    have HBx4 := Lib.hid hx
    clear hx hn
    have c0 : w4.cell? ⟨w.heap.size, 0, none⟩ = some (.int .i64 t.c) := HBt4.out.cell 0
    have c1 : w4.cell? ⟨w.heap.size, 1, none⟩ = some (.int .i64 t.w) := HBt4.out.cell 1
    have c2 : w4.cell? ⟨w.heap.size, 2, none⟩ = some (.bool t.big) := HBt4.out.cell 2
    have c3 : w4.cell? ⟨w.heap.size, 3, none⟩ = some (.slice fA t.fs.length fC) := HBt4.out.cell 3
    have c4 : w4.cell? ⟨w.heap.size, 4, none⟩ = some (.slice dA t.ds.length dC) := HBt4.out.cell 4
    have c5 : w4.cell? ⟨w.heap.size, 5, none⟩ = some (.slice bA t.bs.length bC) := HBt4.out.cell 5
    have c6 : w4.cell? ⟨w.heap.size, 6, none⟩ = some (.slice nA t.ns.length nC) := HBt4.out.cell 6
    go_wp2_with (go_at_call 17; refine (check_any t _ w4 HYt4.out).mono ?_)
    rintro _ w5 ⟨he, hb⟩
    rw [HEV.out] at he
    subst he
    have HW5 := Lib.hid (below_more HW4.out hb)
    have HBt5 := Lib.hid (HBt4.out.later hb HBt4.out.lt)
    have HBx5 := Lib.hid (HBx4.out.later hb HBx4.out.lt)
    have HYt5 := Lib.hid ((HYt4.out.later hb).up hb.size)
    clear HW4 HBt4 HBx4 HYt4
    clear hb
    clear c0 c1 c2 c3 c4 c5 c6
    go_wp2_with (go_at_call 13; refine (lives_any _).mono ?_)
    first
      | rintro _ w6 rfl hb
      | rintro _ w6 ⟨rfl, hb⟩
    have HW6 := Lib.hid (below_more HW5.out hb)
    clear hb
    go_wp2
    go_ret
    exact ⟨rfl, HW6.out⟩
  have HZ := Lib.hid hz
  have HEV := Lib.hid (show errV t = 0 from if_neg hz)
  obtain ⟨T, hT⟩ : ∃ T, tn bg t = T := ⟨_, rfl⟩
  obtain ⟨Q, hQ⟩ : ∃ Q, tn (!bg) T = Q := ⟨_, rfl⟩
  have HTT := Lib.hid (show tT bg t = T by rw [tT, if_neg hz]; exact hT)
  have hzT : sz 4 T ≠ 0 := by rw [← hT, sz_tn]; exact hz
  have HZT := Lib.hid hzT
  have HEVT := Lib.hid (show errV T = 0 from if_neg hzT)
  have HTQ := Lib.hid (show tT (!bg) T = Q by rw [tT, if_neg hzT]; exact hQ)
  have hzQ : sz 4 Q ≠ 0 := by rw [← hQ, sz_tn]; exact hzT
  have HEVQ := Lib.hid (show errV Q = 0 from if_neg hzQ)
  have HTR := Lib.hid (show tT bg Q = T by rw [tT, if_neg hzQ, ← hQ, tn_tn, ← hT, tn_tn])
  have HFT := Lib.hid (show Fit T by rw [← hT]; exact fit_tn _ HFIT.out)
  have HFQ := Lib.hid (show Fit Q by rw [← hQ]; exact fit_tn _ HFT.out)
  have HSTX := Lib.hid (show Swp t T from ⟨hz, hzT, by rw [← hT, tn_tn]⟩)
  have HSXY := Lib.hid (show Swp T Q from ⟨hzT, hzQ, by rw [← hQ, tn_tn]⟩)
  obtain ⟨r, hr⟩ : ∃ r, sz 4 t = r := ⟨_, rfl⟩
  have HSV := Lib.hid (show sizeV t = .tuple #[.int .i64 r, .int .i64 0] by rw [sizeV, if_neg hz, hr])
  have HSVT := Lib.hid (show sizeV T = .tuple #[.int .i64 r, .int .i64 0] by rw [sizeV, if_neg hzT, ← hT, sz_tn, hr])
  obtain ⟨xs, hxs⟩ : ∃ xs, pls t 0 = xs := ⟨_, rfl⟩
  have HXS := Lib.hid hxs
  have HYS := Lib.hid (show pls T 0 = xs.map (Pl.turn bg) by rw [← hT, pls_tn bg 4 (by omega) t 0 hz, hxs])
  have hpl : 0 < xs.length := by rw [← hxs]; exact (pls_ap 4 (by omega) t 0 hz).2
  have hpl2 : xs.length ≤ 256 := by have h1 := pls_len 4 (by omega) t 0 hz; have h2 := sz_le 4 t; rw [hxs] at h1; omega
  have HML := Lib.hid (show (xs.map (Pl.turn bg)).length = xs.length from List.length_map _)
  clear hT hQ hz hzT hzQ hr hxs
  go_enter Try.func9, Try.ntmps9
  go_wp2_with (go_at_call 12; refine (big_any t _ _ ?_).mono ?_)
  · exact HYt1.out
  rintro _ w2 ⟨he, hb⟩
  rw [HBG.out] at he
  subst he
  have HW2 := Lib.hid (below_more HBW.out hb)
  have HBt2 := Lib.hid (HBt1.out.later hb (by simp))
  have HYt2 := Lib.hid ((HYt1.out.later hb).up hb.size)
  clear HBt1 HYt1
  clear hb
  have c0 : w2.cell? ⟨w.heap.size, 0, none⟩ = some (.int .i64 t.c) := HBt2.out.cell 0
  have c1 : w2.cell? ⟨w.heap.size, 1, none⟩ = some (.int .i64 t.w) := HBt2.out.cell 1
  have c2 : w2.cell? ⟨w.heap.size, 2, none⟩ = some (.bool t.big) := HBt2.out.cell 2
  have c3 : w2.cell? ⟨w.heap.size, 3, none⟩ = some (.slice fA t.fs.length fC) := HBt2.out.cell 3
  have c4 : w2.cell? ⟨w.heap.size, 4, none⟩ = some (.slice dA t.ds.length dC) := HBt2.out.cell 4
  have c5 : w2.cell? ⟨w.heap.size, 5, none⟩ = some (.slice bA t.bs.length bC) := HBt2.out.cell 5
  have c6 : w2.cell? ⟨w.heap.size, 6, none⟩ = some (.slice nA t.ns.length nC) := HBt2.out.cell 6
  go_wp2_with (go_at_call 23; refine (pturn_any bg t HFIT.out _ w2 HYt2.out).mono ?_)
  first
    | rintro _ w3 u rfl hsg hb
    | rintro _ w3 ⟨u, rfl, hsg, hb⟩
  rw [HTT.out] at hsg
  rw [HEV.out]
  obtain ⟨fA8, dA8, bA8, nA8, fC8, dC8, bC8, nC8, rfl⟩ := (hsg.ty (Nat.le_refl _)).shape
  have HW3 := Lib.hid (below_more HW2.out hb)
  have HBt3 := Lib.hid (HBt2.out.later hb HBt2.out.lt)
  have HYt3 := Lib.hid ((HYt2.out.later hb).up hb.size)
  clear HW2 HBt2 HYt2
  have HYx3 := Lib.hid (hsg.ty (Nat.le_refl _))
  clear hb hsg
  clear c0 c1 c2 c3 c4 c5 c6
  go_upto_region 4 with fail
  have hn := below_new w3 (.cells #[.int .i64 T.c, .int .i64 T.w, .bool T.big, .slice fA8 T.fs.length fC8, .slice dA8 T.ds.length dC8, .slice bA8 T.bs.length bC8, .slice nA8 T.ns.length nC8] 28)
  have hx := Bx.new w3 28 #[.int .i64 T.c, .int .i64 T.w, .bool T.big, .slice fA8 T.fs.length fC8, .slice dA8 T.ds.length dC8, .slice bA8 T.bs.length bC8, .slice nA8 T.ns.length nC8]
  generalize hw : (w3.alloc (.cells #[.int .i64 T.c, .int .i64 T.w, .bool T.big, .slice fA8 T.fs.length fC8, .slice dA8 T.ds.length dC8, .slice bA8 T.bs.length bC8, .slice nA8 T.ns.length nC8] 28)) = w4 at hn hx
  clear hw
  have HW4 := Lib.hid (below_more HW3.out hn)
  have HBt4 := Lib.hid (HBt3.out.later hn HBt3.out.lt)
  have HYt4 := Lib.hid ((HYt3.out.later hn).up hn.size)
  have HYx4 := Lib.hid ((HYx3.out.later hn).up hn.size)
  clear HW3 HBt3 HYt3 HYx3
  have HBx4 := Lib.hid hx
  clear hx hn
  have d0 : w4.cell? ⟨w3.heap.size, 0, none⟩ = some (.int .i64 T.c) := HBx4.out.cell 0
  have d1 : w4.cell? ⟨w3.heap.size, 1, none⟩ = some (.int .i64 T.w) := HBx4.out.cell 1
  have d2 : w4.cell? ⟨w3.heap.size, 2, none⟩ = some (.bool T.big) := HBx4.out.cell 2
  have d3 : w4.cell? ⟨w3.heap.size, 3, none⟩ = some (.slice fA8 T.fs.length fC8) := HBx4.out.cell 3
  have d4 : w4.cell? ⟨w3.heap.size, 4, none⟩ = some (.slice dA8 T.ds.length dC8) := HBx4.out.cell 4
  have d5 : w4.cell? ⟨w3.heap.size, 5, none⟩ = some (.slice bA8 T.bs.length bC8) := HBx4.out.cell 5
  have d6 : w4.cell? ⟨w3.heap.size, 6, none⟩ = some (.slice nA8 T.ns.length nC8) := HBx4.out.cell 6
  go_wp2_with (go_at_call 23; refine (pturn_any (!bg) T HFT.out _ w4 HYx4.out).mono ?_)
  first
    | rintro _ w5 u rfl hsg hb
    | rintro _ w5 ⟨u, rfl, hsg, hb⟩
  rw [HTQ.out] at hsg
  rw [HEVT.out]
  obtain ⟨fA7, dA7, bA7, nA7, fC7, dC7, bC7, nC7, rfl⟩ := (hsg.ty (Nat.le_refl _)).shape
  have HW5 := Lib.hid (below_more HW4.out hb)
  have HBt5 := Lib.hid (HBt4.out.later hb HBt4.out.lt)
  have HBx5 := Lib.hid (HBx4.out.later hb HBx4.out.lt)
  have HYt5 := Lib.hid ((HYt4.out.later hb).up hb.size)
  have HYx5 := Lib.hid ((HYx4.out.later hb).up hb.size)
  clear HW4 HBt4 HBx4 HYt4 HYx4
  have HYy5 := Lib.hid (hsg.ty (Nat.le_refl _))
  clear hb hsg
  clear d0 d1 d2 d3 d4 d5 d6
  go_upto_region 7 with fail
  have hn := below_new w5 (.cells #[.int .i64 Q.c, .int .i64 Q.w, .bool Q.big, .slice fA7 Q.fs.length fC7, .slice dA7 Q.ds.length dC7, .slice bA7 Q.bs.length bC7, .slice nA7 Q.ns.length nC7] 28)
  have hx := Bx.new w5 28 #[.int .i64 Q.c, .int .i64 Q.w, .bool Q.big, .slice fA7 Q.fs.length fC7, .slice dA7 Q.ds.length dC7, .slice bA7 Q.bs.length bC7, .slice nA7 Q.ns.length nC7]
  generalize hw : (w5.alloc (.cells #[.int .i64 Q.c, .int .i64 Q.w, .bool Q.big, .slice fA7 Q.fs.length fC7, .slice dA7 Q.ds.length dC7, .slice bA7 Q.bs.length bC7, .slice nA7 Q.ns.length nC7] 28)) = w6 at hn hx
  clear hw
  have HW6 := Lib.hid (below_more HW5.out hn)
  have HBt6 := Lib.hid (HBt5.out.later hn HBt5.out.lt)
  have HBx6 := Lib.hid (HBx5.out.later hn HBx5.out.lt)
  have HYt6 := Lib.hid ((HYt5.out.later hn).up hn.size)
  have HYx6 := Lib.hid ((HYx5.out.later hn).up hn.size)
  have HYy6 := Lib.hid ((HYy5.out.later hn).up hn.size)
  clear HW5 HBt5 HBx5 HYt5 HYx5 HYy5
  have HBy6 := Lib.hid hx
  clear hx hn
  have c0 : w6.cell? ⟨w5.heap.size, 0, none⟩ = some (.int .i64 Q.c) := HBy6.out.cell 0
  have c1 : w6.cell? ⟨w5.heap.size, 1, none⟩ = some (.int .i64 Q.w) := HBy6.out.cell 1
  have c2 : w6.cell? ⟨w5.heap.size, 2, none⟩ = some (.bool Q.big) := HBy6.out.cell 2
  have c3 : w6.cell? ⟨w5.heap.size, 3, none⟩ = some (.slice fA7 Q.fs.length fC7) := HBy6.out.cell 3
  have c4 : w6.cell? ⟨w5.heap.size, 4, none⟩ = some (.slice dA7 Q.ds.length dC7) := HBy6.out.cell 4
  have c5 : w6.cell? ⟨w5.heap.size, 5, none⟩ = some (.slice bA7 Q.bs.length bC7) := HBy6.out.cell 5
  have c6 : w6.cell? ⟨w5.heap.size, 6, none⟩ = some (.slice nA7 Q.ns.length nC7) := HBy6.out.cell 6
  go_wp2_with (go_at_call 23; refine (pturn_any bg Q HFQ.out _ w6 HYy6.out).mono ?_)
  first
    | rintro _ w7 u rfl hsg hb
    | rintro _ w7 ⟨u, rfl, hsg, hb⟩
  rw [HTR.out] at hsg
  rw [HEVQ.out]
  obtain ⟨fA6, dA6, bA6, nA6, fC6, dC6, bC6, nC6, rfl⟩ := (hsg.ty (Nat.le_refl _)).shape
  have HW7 := Lib.hid (below_more HW6.out hb)
  have HBt7 := Lib.hid (HBt6.out.later hb HBt6.out.lt)
  have HBx7 := Lib.hid (HBx6.out.later hb HBx6.out.lt)
  have HBy7 := Lib.hid (HBy6.out.later hb HBy6.out.lt)
  have HYt7 := Lib.hid ((HYt6.out.later hb).up hb.size)
  have HYx7 := Lib.hid ((HYx6.out.later hb).up hb.size)
  have HYy7 := Lib.hid ((HYy6.out.later hb).up hb.size)
  clear HW6 HBt6 HBx6 HBy6 HYt6 HYx6 HYy6
  have HYz7 := Lib.hid (hsg.ty (Nat.le_refl _))
  clear hb hsg
  clear c0 c1 c2 c3 c4 c5 c6
  go_upto_region 8 with fail
  have hn := below_new w7 (.cells #[.int .i64 T.c, .int .i64 T.w, .bool T.big, .slice fA6 T.fs.length fC6, .slice dA6 T.ds.length dC6, .slice bA6 T.bs.length bC6, .slice nA6 T.ns.length nC6] 28)
  have hx := Bx.new w7 28 #[.int .i64 T.c, .int .i64 T.w, .bool T.big, .slice fA6 T.fs.length fC6, .slice dA6 T.ds.length dC6, .slice bA6 T.bs.length bC6, .slice nA6 T.ns.length nC6]
  generalize hw : (w7.alloc (.cells #[.int .i64 T.c, .int .i64 T.w, .bool T.big, .slice fA6 T.fs.length fC6, .slice dA6 T.ds.length dC6, .slice bA6 T.bs.length bC6, .slice nA6 T.ns.length nC6] 28)) = w8 at hn hx
  clear hw
  have HW8 := Lib.hid (below_more HW7.out hn)
  have HBt8 := Lib.hid (HBt7.out.later hn HBt7.out.lt)
  have HBx8 := Lib.hid (HBx7.out.later hn HBx7.out.lt)
  have HBy8 := Lib.hid (HBy7.out.later hn HBy7.out.lt)
  have HYt8 := Lib.hid ((HYt7.out.later hn).up hn.size)
  have HYx8 := Lib.hid ((HYx7.out.later hn).up hn.size)
  have HYy8 := Lib.hid ((HYy7.out.later hn).up hn.size)
  have HYz8 := Lib.hid ((HYz7.out.later hn).up hn.size)
  clear HW7 HBt7 HBx7 HBy7 HYt7 HYx7 HYy7 HYz7
  have HBz8 := Lib.hid hx
  clear hx hn
  have c0 : w8.cell? ⟨w.heap.size, 0, none⟩ = some (.int .i64 t.c) := HBt8.out.cell 0
  have c1 : w8.cell? ⟨w.heap.size, 1, none⟩ = some (.int .i64 t.w) := HBt8.out.cell 1
  have c2 : w8.cell? ⟨w.heap.size, 2, none⟩ = some (.bool t.big) := HBt8.out.cell 2
  have c3 : w8.cell? ⟨w.heap.size, 3, none⟩ = some (.slice fA t.fs.length fC) := HBt8.out.cell 3
  have c4 : w8.cell? ⟨w.heap.size, 4, none⟩ = some (.slice dA t.ds.length dC) := HBt8.out.cell 4
  have c5 : w8.cell? ⟨w.heap.size, 5, none⟩ = some (.slice bA t.bs.length bC) := HBt8.out.cell 5
  have c6 : w8.cell? ⟨w.heap.size, 6, none⟩ = some (.slice nA t.ns.length nC) := HBt8.out.cell 6
  go_wp2_with (go_at_call 15; refine (psizeV_any t _ w8 HYt8.out).mono ?_)
  rintro _ w9 ⟨he, hb⟩
  rw [HSV.out] at he
  subst he
  have HW9 := Lib.hid (below_more HW8.out hb)
  have HBt9 := Lib.hid (HBt8.out.later hb HBt8.out.lt)
  have HBx9 := Lib.hid (HBx8.out.later hb HBx8.out.lt)
  have HBy9 := Lib.hid (HBy8.out.later hb HBy8.out.lt)
  have HBz9 := Lib.hid (HBz8.out.later hb HBz8.out.lt)
  have HYt9 := Lib.hid ((HYt8.out.later hb).up hb.size)
  have HYx9 := Lib.hid ((HYx8.out.later hb).up hb.size)
  have HYy9 := Lib.hid ((HYy8.out.later hb).up hb.size)
  have HYz9 := Lib.hid ((HYz8.out.later hb).up hb.size)
  clear HW8 HBt8 HBx8 HBy8 HBz8 HYt8 HYx8 HYy8 HYz8
  clear hb
  clear c0 c1 c2 c3 c4 c5 c6
  have d0 : w9.cell? ⟨w3.heap.size, 0, none⟩ = some (.int .i64 T.c) := HBx9.out.cell 0
  have d1 : w9.cell? ⟨w3.heap.size, 1, none⟩ = some (.int .i64 T.w) := HBx9.out.cell 1
  have d2 : w9.cell? ⟨w3.heap.size, 2, none⟩ = some (.bool T.big) := HBx9.out.cell 2
  have d3 : w9.cell? ⟨w3.heap.size, 3, none⟩ = some (.slice fA8 T.fs.length fC8) := HBx9.out.cell 3
  have d4 : w9.cell? ⟨w3.heap.size, 4, none⟩ = some (.slice dA8 T.ds.length dC8) := HBx9.out.cell 4
  have d5 : w9.cell? ⟨w3.heap.size, 5, none⟩ = some (.slice bA8 T.bs.length bC8) := HBx9.out.cell 5
  have d6 : w9.cell? ⟨w3.heap.size, 6, none⟩ = some (.slice nA8 T.ns.length nC8) := HBx9.out.cell 6
  go_wp2_with (go_at_call 15; refine (psizeV_any T _ w9 HYx9.out).mono ?_)
  rintro _ w10 ⟨he, hb⟩
  rw [HSVT.out] at he
  subst he
  have HW10 := Lib.hid (below_more HW9.out hb)
  have HBt10 := Lib.hid (HBt9.out.later hb HBt9.out.lt)
  have HBx10 := Lib.hid (HBx9.out.later hb HBx9.out.lt)
  have HBy10 := Lib.hid (HBy9.out.later hb HBy9.out.lt)
  have HBz10 := Lib.hid (HBz9.out.later hb HBz9.out.lt)
  have HYt10 := Lib.hid ((HYt9.out.later hb).up hb.size)
  have HYx10 := Lib.hid ((HYx9.out.later hb).up hb.size)
  have HYy10 := Lib.hid ((HYy9.out.later hb).up hb.size)
  have HYz10 := Lib.hid ((HYz9.out.later hb).up hb.size)
  clear HW9 HBt9 HBx9 HBy9 HBz9 HYt9 HYx9 HYy9 HYz9
  clear hb
  clear d0 d1 d2 d3 d4 d5 d6
  have c0 : w10.cell? ⟨w.heap.size, 0, none⟩ = some (.int .i64 t.c) := HBt10.out.cell 0
  have c1 : w10.cell? ⟨w.heap.size, 1, none⟩ = some (.int .i64 t.w) := HBt10.out.cell 1
  have c2 : w10.cell? ⟨w.heap.size, 2, none⟩ = some (.bool t.big) := HBt10.out.cell 2
  have c3 : w10.cell? ⟨w.heap.size, 3, none⟩ = some (.slice fA t.fs.length fC) := HBt10.out.cell 3
  have c4 : w10.cell? ⟨w.heap.size, 4, none⟩ = some (.slice dA t.ds.length dC) := HBt10.out.cell 4
  have c5 : w10.cell? ⟨w.heap.size, 5, none⟩ = some (.slice bA t.bs.length bC) := HBt10.out.cell 5
  have c6 : w10.cell? ⟨w.heap.size, 6, none⟩ = some (.slice nA t.ns.length nC) := HBt10.out.cell 6
  go_wp2_with (go_at_call 19; refine (places_yes t _ w10 HYt10.out HZ.out).mono ?_)
  first
    | rintro _ w11 V rfl ho hb
    | rintro _ w11 ⟨V, rfl, ho, hb⟩
  rw [HXS.out] at ho
  obtain ⟨g, cap, rfl, hg1, hg2⟩ := World.ownsRow.form ho hpl
  have HW11 := Lib.hid (below_more HW10.out hb)
  have HBt11 := Lib.hid (HBt10.out.later hb HBt10.out.lt)
  have HBx11 := Lib.hid (HBx10.out.later hb HBx10.out.lt)
  have HBy11 := Lib.hid (HBy10.out.later hb HBy10.out.lt)
  have HBz11 := Lib.hid (HBz10.out.later hb HBz10.out.lt)
  have HYt11 := Lib.hid ((HYt10.out.later hb).up hb.size)
  have HYx11 := Lib.hid ((HYx10.out.later hb).up hb.size)
  have HYy11 := Lib.hid ((HYy10.out.later hb).up hb.size)
  have HYz11 := Lib.hid ((HYz10.out.later hb).up hb.size)
  clear HW10 HBt10 HBx10 HBy10 HBz10 HYt10 HYx10 HYy10 HYz10
  have HOg := Lib.hid ho
  clear hb ho
  clear c0 c1 c2 c3 c4 c5 c6
  have d0 : w11.cell? ⟨w3.heap.size, 0, none⟩ = some (.int .i64 T.c) := HBx11.out.cell 0
  have d1 : w11.cell? ⟨w3.heap.size, 1, none⟩ = some (.int .i64 T.w) := HBx11.out.cell 1
  have d2 : w11.cell? ⟨w3.heap.size, 2, none⟩ = some (.bool T.big) := HBx11.out.cell 2
  have d3 : w11.cell? ⟨w3.heap.size, 3, none⟩ = some (.slice fA8 T.fs.length fC8) := HBx11.out.cell 3
  have d4 : w11.cell? ⟨w3.heap.size, 4, none⟩ = some (.slice dA8 T.ds.length dC8) := HBx11.out.cell 4
  have d5 : w11.cell? ⟨w3.heap.size, 5, none⟩ = some (.slice bA8 T.bs.length bC8) := HBx11.out.cell 5
  have d6 : w11.cell? ⟨w3.heap.size, 6, none⟩ = some (.slice nA8 T.ns.length nC8) := HBx11.out.cell 6
  go_wp2_with (go_at_call 19; refine (places_yes T _ w11 HYx11.out HZT.out).mono ?_)
  first
    | rintro _ w12 V rfl ho hb
    | rintro _ w12 ⟨V, rfl, ho, hb⟩
  rw [HYS.out] at ho
  rw [HML.out] at ho
  obtain ⟨k9, cap2, rfl, hk91, hk92⟩ := World.ownsRow.form ho hpl
  have HW12 := Lib.hid (below_more HW11.out hb)
  have HBt12 := Lib.hid (HBt11.out.later hb HBt11.out.lt)
  have HBx12 := Lib.hid (HBx11.out.later hb HBx11.out.lt)
  have HBy12 := Lib.hid (HBy11.out.later hb HBy11.out.lt)
  have HBz12 := Lib.hid (HBz11.out.later hb HBz11.out.lt)
  have HYt12 := Lib.hid ((HYt11.out.later hb).up hb.size)
  have HYx12 := Lib.hid ((HYx11.out.later hb).up hb.size)
  have HYy12 := Lib.hid ((HYy11.out.later hb).up hb.size)
  have HYz12 := Lib.hid ((HYz11.out.later hb).up hb.size)
  clear HW11 HBt11 HBx11 HBy11 HBz11 HYt11 HYx11 HYy11 HYz11
  have HOk9 := Lib.hid ho
  have HR11 := Lib.hid hb
  clear hb ho
  clear d0 d1 d2 d3 d4 d5 d6
  have c0 : w12.cell? ⟨w7.heap.size, 0, none⟩ = some (.int .i64 T.c) := HBz12.out.cell 0
  have c1 : w12.cell? ⟨w7.heap.size, 1, none⟩ = some (.int .i64 T.w) := HBz12.out.cell 1
  have c2 : w12.cell? ⟨w7.heap.size, 2, none⟩ = some (.bool T.big) := HBz12.out.cell 2
  have c3 : w12.cell? ⟨w7.heap.size, 3, none⟩ = some (.slice fA6 T.fs.length fC6) := HBz12.out.cell 3
  have c4 : w12.cell? ⟨w7.heap.size, 4, none⟩ = some (.slice dA6 T.ds.length dC6) := HBz12.out.cell 4
  have c5 : w12.cell? ⟨w7.heap.size, 5, none⟩ = some (.slice bA6 T.bs.length bC6) := HBz12.out.cell 5
  have c6 : w12.cell? ⟨w7.heap.size, 6, none⟩ = some (.slice nA6 T.ns.length nC6) := HBz12.out.cell 6
  have d0 : w12.cell? ⟨w3.heap.size, 0, none⟩ = some (.int .i64 T.c) := HBx12.out.cell 0
  have d1 : w12.cell? ⟨w3.heap.size, 1, none⟩ = some (.int .i64 T.w) := HBx12.out.cell 1
  have d2 : w12.cell? ⟨w3.heap.size, 2, none⟩ = some (.bool T.big) := HBx12.out.cell 2
  have d3 : w12.cell? ⟨w3.heap.size, 3, none⟩ = some (.slice fA8 T.fs.length fC8) := HBx12.out.cell 3
  have d4 : w12.cell? ⟨w3.heap.size, 4, none⟩ = some (.slice dA8 T.ds.length dC8) := HBx12.out.cell 4
  have d5 : w12.cell? ⟨w3.heap.size, 5, none⟩ = some (.slice bA8 T.bs.length bC8) := HBx12.out.cell 5
  have d6 : w12.cell? ⟨w3.heap.size, 6, none⟩ = some (.slice nA8 T.ns.length nC8) := HBx12.out.cell 6
  go_wp2_with (go_at_call 27; refine (yes_of (psame_any T T _ _ w12 HYz12.out HYx12.out) rfl).mono ?_)
  first
    | rintro _ w13 rfl hb
    | rintro _ w13 ⟨rfl, hb⟩
  have HR12 := Lib.hid hb
  have HW13 := Lib.hid (below_more HW12.out hb)
  have HBt13 := Lib.hid (HBt12.out.later hb HBt12.out.lt)
  have HBx13 := Lib.hid (HBx12.out.later hb HBx12.out.lt)
  have HBy13 := Lib.hid (HBy12.out.later hb HBy12.out.lt)
  have HBz13 := Lib.hid (HBz12.out.later hb HBz12.out.lt)
  have HYt13 := Lib.hid ((HYt12.out.later hb).up hb.size)
  have HYx13 := Lib.hid ((HYx12.out.later hb).up hb.size)
  have HYy13 := Lib.hid ((HYy12.out.later hb).up hb.size)
  have HYz13 := Lib.hid ((HYz12.out.later hb).up hb.size)
  clear HW12 HBt12 HBx12 HBy12 HBz12 HYt12 HYx12 HYy12 HYz12
  clear hb
  clear c0 c1 c2 c3 c4 c5 c6 d0 d1 d2 d3 d4 d5 d6
  have c0 : w13.cell? ⟨w.heap.size, 0, none⟩ = some (.int .i64 t.c) := HBt13.out.cell 0
  have c1 : w13.cell? ⟨w.heap.size, 1, none⟩ = some (.int .i64 t.w) := HBt13.out.cell 1
  have c2 : w13.cell? ⟨w.heap.size, 2, none⟩ = some (.bool t.big) := HBt13.out.cell 2
  have c3 : w13.cell? ⟨w.heap.size, 3, none⟩ = some (.slice fA t.fs.length fC) := HBt13.out.cell 3
  have c4 : w13.cell? ⟨w.heap.size, 4, none⟩ = some (.slice dA t.ds.length dC) := HBt13.out.cell 4
  have c5 : w13.cell? ⟨w.heap.size, 5, none⟩ = some (.slice bA t.bs.length bC) := HBt13.out.cell 5
  have c6 : w13.cell? ⟨w.heap.size, 6, none⟩ = some (.slice nA t.ns.length nC) := HBt13.out.cell 6
  have d0 : w13.cell? ⟨w3.heap.size, 0, none⟩ = some (.int .i64 T.c) := HBx13.out.cell 0
  have d1 : w13.cell? ⟨w3.heap.size, 1, none⟩ = some (.int .i64 T.w) := HBx13.out.cell 1
  have d2 : w13.cell? ⟨w3.heap.size, 2, none⟩ = some (.bool T.big) := HBx13.out.cell 2
  have d3 : w13.cell? ⟨w3.heap.size, 3, none⟩ = some (.slice fA8 T.fs.length fC8) := HBx13.out.cell 3
  have d4 : w13.cell? ⟨w3.heap.size, 4, none⟩ = some (.slice dA8 T.ds.length dC8) := HBx13.out.cell 4
  have d5 : w13.cell? ⟨w3.heap.size, 5, none⟩ = some (.slice bA8 T.bs.length bC8) := HBx13.out.cell 5
  have d6 : w13.cell? ⟨w3.heap.size, 6, none⟩ = some (.slice nA8 T.ns.length nC8) := HBx13.out.cell 6
  go_wp2_with (go_at_call 26; refine (yes_of (pswap_any t T HFIT.out HFT.out _ _ w13 HYt13.out HYx13.out) HSTX.out).mono ?_)
  first
    | rintro _ w14 rfl hb
    | rintro _ w14 ⟨rfl, hb⟩
  have HR13 := Lib.hid (below_more HR12.out hb)
  have HW14 := Lib.hid (below_more HW13.out hb)
  have HBt14 := Lib.hid (HBt13.out.later hb HBt13.out.lt)
  have HBx14 := Lib.hid (HBx13.out.later hb HBx13.out.lt)
  have HBy14 := Lib.hid (HBy13.out.later hb HBy13.out.lt)
  have HBz14 := Lib.hid (HBz13.out.later hb HBz13.out.lt)
  have HYt14 := Lib.hid ((HYt13.out.later hb).up hb.size)
  have HYx14 := Lib.hid ((HYx13.out.later hb).up hb.size)
  have HYy14 := Lib.hid ((HYy13.out.later hb).up hb.size)
  have HYz14 := Lib.hid ((HYz13.out.later hb).up hb.size)
  clear HW13 HBt13 HBx13 HBy13 HBz13 HYt13 HYx13 HYy13 HYz13
  clear hb
  clear c0 c1 c2 c3 c4 c5 c6 d0 d1 d2 d3 d4 d5 d6
  have c0 : w14.cell? ⟨w3.heap.size, 0, none⟩ = some (.int .i64 T.c) := HBx14.out.cell 0
  have c1 : w14.cell? ⟨w3.heap.size, 1, none⟩ = some (.int .i64 T.w) := HBx14.out.cell 1
  have c2 : w14.cell? ⟨w3.heap.size, 2, none⟩ = some (.bool T.big) := HBx14.out.cell 2
  have c3 : w14.cell? ⟨w3.heap.size, 3, none⟩ = some (.slice fA8 T.fs.length fC8) := HBx14.out.cell 3
  have c4 : w14.cell? ⟨w3.heap.size, 4, none⟩ = some (.slice dA8 T.ds.length dC8) := HBx14.out.cell 4
  have c5 : w14.cell? ⟨w3.heap.size, 5, none⟩ = some (.slice bA8 T.bs.length bC8) := HBx14.out.cell 5
  have c6 : w14.cell? ⟨w3.heap.size, 6, none⟩ = some (.slice nA8 T.ns.length nC8) := HBx14.out.cell 6
  have d0 : w14.cell? ⟨w5.heap.size, 0, none⟩ = some (.int .i64 Q.c) := HBy14.out.cell 0
  have d1 : w14.cell? ⟨w5.heap.size, 1, none⟩ = some (.int .i64 Q.w) := HBy14.out.cell 1
  have d2 : w14.cell? ⟨w5.heap.size, 2, none⟩ = some (.bool Q.big) := HBy14.out.cell 2
  have d3 : w14.cell? ⟨w5.heap.size, 3, none⟩ = some (.slice fA7 Q.fs.length fC7) := HBy14.out.cell 3
  have d4 : w14.cell? ⟨w5.heap.size, 4, none⟩ = some (.slice dA7 Q.ds.length dC7) := HBy14.out.cell 4
  have d5 : w14.cell? ⟨w5.heap.size, 5, none⟩ = some (.slice bA7 Q.bs.length bC7) := HBy14.out.cell 5
  have d6 : w14.cell? ⟨w5.heap.size, 6, none⟩ = some (.slice nA7 Q.ns.length nC7) := HBy14.out.cell 6
  go_wp2_with (go_at_call 26; refine (yes_of (pswap_any T Q HFT.out HFQ.out _ _ w14 HYx14.out HYy14.out) HSXY.out).mono ?_)
  first
    | rintro _ w15 rfl hb
    | rintro _ w15 ⟨rfl, hb⟩
  have HR14 := Lib.hid (below_more HR13.out hb)
  have HRG := Lib.hid (below_more HR11.out HR14.out)
  have HW15 := Lib.hid (below_more HW14.out hb)
  have HBt15 := Lib.hid (HBt14.out.later hb HBt14.out.lt)
  have HBx15 := Lib.hid (HBx14.out.later hb HBx14.out.lt)
  have HBy15 := Lib.hid (HBy14.out.later hb HBy14.out.lt)
  have HBz15 := Lib.hid (HBz14.out.later hb HBz14.out.lt)
  have HYt15 := Lib.hid ((HYt14.out.later hb).up hb.size)
  have HYx15 := Lib.hid ((HYx14.out.later hb).up hb.size)
  have HYy15 := Lib.hid ((HYy14.out.later hb).up hb.size)
  have HYz15 := Lib.hid ((HYz14.out.later hb).up hb.size)
  clear HW14 HBt14 HBx14 HBy14 HBz14 HYt14 HYx14 HYy14 HYz14
  clear hb
  clear c0 c1 c2 c3 c4 c5 c6 d0 d1 d2 d3 d4 d5 d6
  clear HBt15 HYt15 HBx15 HYx15 HBy15 HYy15 HBz15 HYz15
  have n0 : ((xs.length : Int) != (xs.length : Int)) = false := by simp
  go_wp2
  go_loopw [19] (fun i W => ∃ (k q : Nat), k ≤ xs.length ∧ i = .int .i64 k ∧ W = w15.drewN q) (fun i _ => xs.length - (intOf i).toNat)
  case atStart => exact ⟨0, 0, Nat.zero_le _, rfl, rfl⟩
  case round =>
    obtain ⟨k, q, hk, rfl, rfl⟩ := hrel
    by_cases hlt : k < xs.length
    · obtain ⟨p0, p1, p2, p3⟩ := place_at2 HOg.out hlt
      obtain ⟨r0, r1, r2, r3⟩ := place_at2 HOk9.out (k := k) (by rw [HML.out]; exact hlt)
      rw [List.getElem_map] at r0 r1 r2 r3
      simp only [Pl.turn] at r0 r1 r2 r3
      have p0 := (HRG.out.cell (p := ⟨g, k * 4, none⟩) hg2).trans p0
      have r0 := (HR14.out.cell (p := ⟨k9, k * 4, none⟩) hk92).trans r0
      have p1 := (HRG.out.cell (p := ⟨g, k * 4 + 1, none⟩) hg2).trans p1
      have r1 := (HR14.out.cell (p := ⟨k9, k * 4 + 1, none⟩) hk92).trans r1
      have p2 := (HRG.out.cell (p := ⟨g, k * 4 + 2, none⟩) hg2).trans p2
      have r2 := (HR14.out.cell (p := ⟨k9, k * 4 + 2, none⟩) hk92).trans r2
      have p3 := (HRG.out.cell (p := ⟨g, k * 4 + 3, none⟩) hg2).trans p3
      have r3 := (HR14.out.cell (p := ⟨k9, k * 4 + 3, none⟩) hk92).trans r3
      generalize xs[k].pos = x0 at *
      generalize xs[k].c = x1 at *
      generalize xs[k].w = x2 at *
      generalize xs[k].big = x3 at *
      have i0 : (0 : Int) ≤ (k : Int) := by omega
      have i1 : (k : Int) < (xs.length : Int) := by omega
      have n1 : (x0 != x0) = false := by simp
      have n2 : (x1 != x1) = false := by simp
      have n3 : (x2 != x2) = false := by simp
      have n4 : (bg != bg) = false := by simp
      go_wp2
      go_quiet (fail)
      go_wp2
      exact ⟨⟨k + 1, q + nq, by omega, by go_num, rfl⟩, by simp [intOf]; omega⟩
    · obtain rfl : k = xs.length := by omega
      go_wp2_with (go_at_call 13; refine (lives_any _).mono ?_)
      first
        | rintro _ w99 rfl hb
        | rintro _ w99 ⟨rfl, hb⟩
      have HW99 := Lib.hid (below_more (below_drewN HW15.out q) hb)
      clear hb
      go_wp2
      go_ret
      exact ⟨rfl, HW99.out⟩
end Go.Proofs.Ytbdhihgokkcmfaa.Ty9

