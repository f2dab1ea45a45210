/- The numbers of a type lie apart: plainly; the law DatatypeApart. -/
import Derived.Test.YtbdhihgokkcmfaaLi
import Derived.Deep.QuietTactic
import Derived.BigQuiet
namespace Go.Proofs.Ytbdhihgokkcmfaa.Ty9
set_option linter.unusedVariables false
set_option linter.unusedSimpArgs false
open Go.RowKit Wd

/-- In order from byte e on, the last before n. -/
def Ap : List Pl → Int → Int → Prop
  | [], e, n => e ≤ n
  | p :: l, e, n => e ≤ p.pos ∧ 1 ≤ p.w ∧ p.w ≤ 8 ∧ Ap l (p.pos + p.w) n
theorem Ap.low {l : List Pl} {e e' n : Int} (h : Ap l e n) (he : e' ≤ e) : Ap l e' n := by
  cases l with
  | nil => exact Int.le_trans he h
  | cons p l => exact ⟨Int.le_trans he h.1, h.2⟩
theorem Ap.app {a b : List Pl} {e m n : Int} (h : Ap a e m) (k : Ap b m n) : Ap (a ++ b) e n := by
  induction a generalizing e with
  | nil => exact k.low h
  | cons p a ih => exact ⟨h.1, h.2.1, h.2.2.1, ih h.2.2.2⟩
theorem Ap.top {l : List Pl} {e n n' : Int} (h : Ap l e n) (hn : n ≤ n') : Ap l e n' := by
  induction l generalizing e with
  | nil => exact Int.le_trans h hn
  | cons p l ih => exact ⟨h.1, h.2.1, h.2.2.1, ih h.2.2.2⟩
theorem Ap.le {l : List Pl} {e n : Int} (h : Ap l e n) : e ≤ n := by
  induction l generalizing e with
  | nil => exact h
  | cons p l ih => have := ih h.2.2.2; have := h.1; have := h.2.1; omega
theorem reps_ap (f : Int → List Pl) (s : Int) (hs : ∀ q, Ap (f q) q (q + s)) (n : Nat) : ∀ p, Ap (reps n s f p) p (p + s * n) := by
  induction n with
  | zero => intro p; rw [reps]; show p ≤ p + s * 0; omega
  | succ n ih =>
    intro p
    rw [reps]
    have h := (hs p).app (ih (p + s))
    have e : p + s + s * (n : Int) = p + s * ((n + 1 : Nat) : Int) := by rw [Int.natCast_add, Int.mul_add]; omega
    rw [e] at h
    exact h
theorem pls_ap (d : Nat) : d ≤ 4 → ∀ (t : Ty) (p : Int), sz d t ≠ 0 → Ap (pls t p) p (p + sz d t) ∧ 0 < (pls t p).length := by
  induction d with
  | zero => intro _ t p h; exact absurd rfl h
  | succ d ih =>
    intro hd t p h
    have ih := ih (by omega)
    by_cases h5 : t.c = 5
    · obtain ⟨e, hw, hw2, hbig, hl, hf1, hf2, hfl⟩ := sz_comp h5 h
      rw [pls_comp h5, e]
      have hh : ∀ (fs : List Fd) pre (e : Int), flds (sz d) t.w fs pre e ≠ 0 → e ≤ t.w → Ap (plf fs p) (p + e) (p + t.w) := by
        intro fs
        induction fs with
        | nil => intro pre e _ he; rw [plf]; show p + e ≤ p + t.w; omega
        | cons f fs ihf =>
          intro pre e hne he
          obtain ⟨h1, h2, h3, h4, h5', h6'⟩ := flds_cons hne
          have hp := ihf _ _ h6' h4
          have hq := (ih f.ty (p + f.pos) h1).1
          rw [plf_cons]
          refine (hq.low (by omega)).app ?_
          rw [Int.add_assoc]
          exact hp
      have h1 := hh t.fs [] 0 (by omega) (by omega)
      rw [Int.add_zero] at h1
      refine ⟨h1, ?_⟩
      cases hfs : t.fs with
      | nil => rw [hfs] at hf1; exact absurd hf1 (by simp)
      | cons f fs =>
        rw [hfs] at hfl
        obtain ⟨h1, _⟩ := flds_cons (show flds (sz d) t.w (f :: fs) [] 0 ≠ 0 by omega)
        have := (ih f.ty (p + f.pos) h1).2
        rw [plf_cons, List.length_append]
        omega
    by_cases h6 : t.c = 6
    · obtain ⟨b, hb, hb0, e, hp, hbig, hw, hl, hd1, hd2, hdm⟩ := sz_arr h6 h
      rw [pls_arr h6 hb, e, sz_deep (by omega) hb0]
      have h1 := reps_ap (fun q => pls b q) (sz d b) (fun q => (ih b q hb0).1) (prod t.ds).toNat p
      rw [Int.toNat_of_nonneg (by omega)] at h1
      refine ⟨h1, ?_⟩
      obtain ⟨k, hk⟩ : ∃ k, (prod t.ds).toNat = k + 1 := ⟨(prod t.ds).toNat - 1, by omega⟩
      rw [hk, reps, List.length_append]
      have := (ih b p hb0).2
      omega
    by_cases h7 : t.c = 7
    · obtain ⟨b, hb, hbc, hn, e, hd1, hbig, hw, hl, hn1, hn2, hm⟩ := sz_enum h7 h
      rw [pls_enum h7 hb, num_len (by omega) (by omega) (by omega), if_neg (by omega), e]
      have := (numB_iff b).mp hn
      exact ⟨⟨Int.le_refl _, by show 1 ≤ b.w; omega, by show b.w ≤ 8; omega, Int.le_refl _⟩, by simp⟩
    · obtain ⟨hn, e⟩ := sz_nums h5 h6 h7 h
      have := (numB_iff t).mp hn
      rw [num_len h5 h6 h7, e]
      split
      · exact ⟨⟨Int.le_refl _, by show 1 ≤ t.w; omega, by show t.w ≤ 8; omega, Int.le_refl _, by show 1 ≤ t.w; omega, by show t.w ≤ 8; omega, by show p + t.w + t.w ≤ _; omega⟩, by simp⟩
      · exact ⟨⟨Int.le_refl _, by show 1 ≤ t.w; omega, by show t.w ≤ 8; omega, Int.le_refl _⟩, by simp⟩
theorem cells_at {xs : List Pl} {k : Nat} (h : k < xs.length) (j : Nat) (hj : j < 4) : (xs.flatMap Pl.cells)[k * 4 + j]? = xs[k].cells[j]? := by
  induction xs generalizing k with
  | nil => exact absurd h (Nat.not_lt_zero _)
  | cons x xs ih =>
    rw [List.flatMap_cons]
    cases k with
    | zero => rw [List.getElem?_append_left (by simp [Pl.cells]; omega)]; simp
    | succ k =>
      rw [List.getElem?_append_right (by simp [Pl.cells]; omega)]
      have hl : x.cells.length = 4 := rfl
      rw [hl, show (k + 1) * 4 + j - 4 = k * 4 + j by omega, ih (by simpa using h)]
      rfl
/-- The cells of the slice of places. -/
theorem own_place {w : World} {base g cap : Nat} {xs : List Pl} (h : w.ownsRow base 46 4 (.slice (some ⟨g, 0, none⟩) xs.length cap) xs.length (xs.flatMap Pl.cells)) {k : Nat} (hk : k < xs.length) :
    w.cell? ⟨g, k * 4, none⟩ = some (.int .i64 xs[k].pos) ∧ w.cell? ⟨g, k * 4 + 1, none⟩ = some (.int .i64 xs[k].c) ∧ w.cell? ⟨g, k * 4 + 2, none⟩ = some (.int .i64 xs[k].w) ∧ w.cell? ⟨g, k * 4 + 3, none⟩ = some (.bool xs[k].big) := by
  have hc : ∀ j u, j < 4 → xs[k].cells[j]? = some u → w.cell? ⟨g, k * 4 + j, none⟩ = some u := by
    intro j u hj hu
    have := h.cells (g := g) rfl (k * 4 + j) u (by rw [cells_at hk j hj]; exact hu)
    have hadd : (⟨g, 0, none⟩ : Addr).add (k * 4 + j) = ⟨g, k * 4 + j, none⟩ := by unfold Addr.add; split <;> simp_all
    rwa [hadd] at this
  exact ⟨hc 0 _ (by omega) rfl, hc 1 _ (by omega) rfl, hc 2 _ (by omega) rfl, hc 3 _ (by omega) rfl⟩
theorem Ap.drop {xs : List Pl} {k : Nat} {e n : Int} (hk : k < xs.length) (h : Ap (xs.drop k) e n) : e ≤ xs[k].pos ∧ 1 ≤ xs[k].w ∧ xs[k].w ≤ 8 ∧ xs[k].pos + xs[k].w ≤ n ∧ Ap (xs.drop (k + 1)) (xs[k].pos + xs[k].w) n := by
  rw [List.drop_eq_getElem_cons hk] at h
  exact ⟨h.1, h.2.1, h.2.2.1, h.2.2.2.le, h.2.2.2⟩

set_option maxHeartbeats 4000000 in
set_option maxRecDepth 100000 in
theorem apart_walk (t : Ty) (v : Value) (w : World) (ht : TyAt w w.heap.size t v) :
    Calls Try.prog 6 #[v] w fun e w' => e = .returned (.bool true) ∧ Below w.heap.size w w' := by
  obtain ⟨fA, dA, bA, nA, fC, dC, bC, nC, rfl⟩ := ht.shape
  have HT0 := Lib.hid ht
  have HT := Lib.hid ((ht.later (below_new w (.cells #[.int .i64 t.c, .int .i64 t.w, .bool t.big, .slice fA t.fs.length fC, .slice dA t.ds.length dC, .slice bA t.bs.length bC, .slice nA t.ns.length nC] 28))).up (below_new w (.cells #[.int .i64 t.c, .int .i64 t.w, .bool t.big, .slice fA t.fs.length fC, .slice dA t.ds.length dC, .slice bA t.bs.length bC, .slice nA t.ns.length nC] 28)).size)
  have HBX := Lib.hid (Bx.new w 28 #[.int .i64 t.c, .int .i64 t.w, .bool t.big, .slice fA t.fs.length fC, .slice dA t.ds.length dC, .slice bA t.bs.length bC, .slice nA t.ns.length nC])
  clear ht
  by_cases hbig : t.left 2000 ≤ 0
  · have HBG := Lib.hid (decide_eq_true hbig)
    clear hbig
    go_enter Try.func6, Try.ntmps6
    go_wp2_with (go_at_call 12; refine (big_any t _ _ ?_).mono ?_)
    · exact HT.out
    rintro _ w2 ⟨he, hb2⟩
    rw [HBG.out] at he
    subst he
    have HW := Lib.hid (below_more (below_new _ _) hb2)
    clear hb2
    go_wp2_with (go_at_call 13; refine (lives_any _).mono ?_)
    rintro _ w3 ⟨rfl, hb3⟩
    have HW3 := Lib.hid (below_more HW.out hb3)
    clear hb3
    go_wp2
    go_ret
    exact ⟨rfl, HW3.out⟩
  have HBG := Lib.hid (decide_eq_false hbig)
  clear hbig
  have hge := sz_ge 4 t
  have hle := sz_le 4 t
  have hsv : sizeV t = if sz 4 t = 0 then .tuple #[.int .i64 0, .int .i64 15] else .tuple #[.int .i64 (sz 4 t), .int .i64 0] := rfl
  by_cases hz : sz 4 t = 0
  · rw [if_pos hz] at hsv
    have HSV := Lib.hid hsv
    have HZ := Lib.hid hz
    clear hsv hz hge hle
    go_enter Try.func6, Try.ntmps6
    go_wp2_with (go_at_call 12; refine (big_any t _ _ ?_).mono ?_)
    · exact HT.out
    rintro _ w2 ⟨he, hb2⟩
    rw [HBG.out] at he
    subst he
    have HW := Lib.hid (below_more (below_new _ _) hb2)
    have hbx := HBX.out.later hb2 (by simp)
    have HBX2 := Lib.hid hbx
    have c0 := hbx.cell 0
    have c1 := hbx.cell 1
    have c2 := hbx.cell 2
    have c3 := hbx.cell 3
    have c4 := hbx.cell 4
    have c5 := hbx.cell 5
    have c6 := hbx.cell 6
    clear hb2 hbx
    go_wp2_with (go_at_call 15; refine (psizeV_any t _ w2 ((HT0.out.later HW.out).up HW.out.size)).mono ?_)
    rintro _ w3 ⟨he, hb3⟩
    rw [HSV.out] at he
    subst he
    have HW3 := Lib.hid (below_more HW.out hb3)
    have hbx := HBX2.out.later hb3 HBX2.out.lt
    clear c0 c1 c2 c3 c4 c5 c6
    have c0 := hbx.cell 0
    have c1 := hbx.cell 1
    have c2 := hbx.cell 2
    have c3 := hbx.cell 3
    have c4 := hbx.cell 4
    have c5 := hbx.cell 5
    have c6 := hbx.cell 6
    clear hb3 hbx
    go_wp2_with (go_at_call 19; refine (places_no t _ w3 ((HT0.out.later HW3.out).up HW3.out.size) HZ.out).mono ?_)
    rintro _ w4 ⟨rfl, hb4⟩
    have HW4 := Lib.hid (below_more HW3.out hb4)
    clear hb4 c0 c1 c2 c3 c4 c5 c6
    go_wp2_with (go_at_call 13; refine (lives_any _).mono ?_)
    rintro _ w5 ⟨rfl, hb5⟩
    have HW5 := Lib.hid (below_more HW4.out hb5)
    clear hb5
    go_wp2
    go_ret
    exact ⟨rfl, HW5.out⟩
  · rw [if_neg hz] at hsv
    have HSV := Lib.hid hsv
    have HZ := Lib.hid hz
    have hap := pls_ap 4 (by omega) t 0 hz
    rw [Int.zero_add] at hap
    have HAP := Lib.hid hap.1
    have hpl := hap.2
    have hplu := pls_len 4 (by omega) t 0 hz
    clear hsv hz hap
    generalize hsz : sz 4 t = s at hle hge HSV HAP hplu
    clear hsz
    generalize hxs : pls t 0 = xs at HAP hpl hplu
    have HXS := Lib.hid hxs
    clear hxs
    go_enter Try.func6, Try.ntmps6
    go_wp2_with (go_at_call 12; refine (big_any t _ _ ?_).mono ?_)
    · exact HT.out
    rintro _ w2 ⟨he, hb2⟩
    rw [HBG.out] at he
    subst he
    have HW := Lib.hid (below_more (below_new _ _) hb2)
    have hbx := HBX.out.later hb2 (by simp)
    have HBX2 := Lib.hid hbx
    have c0 := hbx.cell 0
    have c1 := hbx.cell 1
    have c2 := hbx.cell 2
    have c3 := hbx.cell 3
    have c4 := hbx.cell 4
    have c5 := hbx.cell 5
    have c6 := hbx.cell 6
    clear hb2 hbx
    go_wp2_with (go_at_call 15; refine (psizeV_any t _ w2 ((HT0.out.later HW.out).up HW.out.size)).mono ?_)
    rintro _ w3 ⟨he, hb3⟩
    rw [HSV.out] at he
    subst he
    have HW3 := Lib.hid (below_more HW.out hb3)
    have hbx := HBX2.out.later hb3 HBX2.out.lt
    clear c0 c1 c2 c3 c4 c5 c6
    have c0 := hbx.cell 0
    have c1 := hbx.cell 1
    have c2 := hbx.cell 2
    have c3 := hbx.cell 3
    have c4 := hbx.cell 4
    have c5 := hbx.cell 5
    have c6 := hbx.cell 6
    clear hb3 hbx
    go_wp2_with (go_at_call 19; refine (places_yes t _ w3 ((HT0.out.later HW3.out).up HW3.out.size) HZ.out).mono ?_)
    rintro _ w4 ⟨V, rfl, ho, hb4⟩
    rw [HXS.out] at ho
    obtain ⟨g, cap, rfl, hg1, hg2⟩ := ho.form hpl
    have HW4 := Lib.hid (below_more HW3.out hb4)
    have HO := Lib.hid ho
    clear hb4 ho c0 c1 c2 c3 c4 c5 c6
    go_wp2
    go_loopw [7, 8] (fun x i W => ∃ (k q : Nat) (e : Int), k ≤ xs.length ∧ x = .int .i64 e ∧ i = .int .i64 k ∧ Ap (xs.drop k) e s ∧ 0 ≤ e ∧ W = w4.drewN q) (fun _ i _ => xs.length - (intOf i).toNat)
    case atStart => exact ⟨0, 0, 0, Nat.zero_le _, rfl, rfl, HAP.out, Int.le_refl _, rfl⟩
    case round =>
      obtain ⟨k, q, e, hk, rfl, rfl, hap, he0, rfl⟩ := hrel
      have hes := hap.le
      have HAPk := Lib.hid hap
      clear hap
      by_cases hlt : k < xs.length
      · obtain ⟨h1, h2, h3, h4, h5⟩ := HAPk.out.drop hlt
        obtain ⟨p0, p1, p2, p3⟩ := own_place HO.out hlt
        have H5 := Lib.hid h5
        clear h5 p1 p3 HAPk
        generalize xs[k].pos = ps at *
        generalize xs[k].w = wd at *
        have i0 : (0 : Int) ≤ (k : Int) := by omega
        have i1 : (k : Int) < (xs.length : Int) := by omega
        go_wp2
        go_quiet (fail)
        go_wp2
        exact ⟨⟨k + 1, q + nq, ps + wd, by omega, rfl, by go_num, H5.out, by omega, rfl⟩, by simp [intOf]; omega⟩
      · obtain rfl : k = xs.length := by omega
        clear HAPk
        go_wp2_with (go_at_call 13; refine (lives_any _).mono ?_)
        rintro _ w5 ⟨rfl, hb5⟩
        have HW5 := Lib.hid (below_more (below_drewN HW4.out q) hb5)
        clear hb5
        go_wp2
        go_ret
        exact ⟨rfl, HW5.out⟩
end Go.Proofs.Ytbdhihgokkcmfaa.Ty9
