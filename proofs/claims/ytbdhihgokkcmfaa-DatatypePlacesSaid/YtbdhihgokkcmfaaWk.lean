/- The law DatatypePlaces. -/
import Derived.Test.YtbdhihgokkcmfaaWj
namespace Go.Proofs.Ytbdhihgokkcmfaa.Ty9
set_option linter.unusedVariables false
set_option linter.unusedSimpArgs false
open Go.RowKit Wd

theorem place_at {w : World} {base g cap : Nat} {e : TypeId} {xs : List Pl} (h : w.ownsRow base e 4 (.slice (some ⟨g, 0, none⟩) xs.length cap) xs.length (xs.flatMap Pl.cells)) {k : Nat} (hk : k < xs.length) :
    w.cell? ⟨g, k * 4, none⟩ = some (.int .i64 xs[k].pos) ∧ w.cell? ⟨g, k * 4 + 1, none⟩ = some (.int .i64 xs[k].c) ∧ w.cell? ⟨g, k * 4 + 2, none⟩ = some (.int .i64 xs[k].w) ∧ w.cell? ⟨g, k * 4 + 3, none⟩ = some (.bool xs[k].big) := by
  have hc : ∀ j u, j < 4 → xs[k].cells[j]? = some u → w.cell? ⟨g, k * 4 + j, none⟩ = some u := by
    intro j u hj hu
    have := h.cells (g := g) rfl (k * 4 + j) u (by rw [cells_at hk j hj]; exact hu)
    have hadd : (⟨g, 0, none⟩ : Addr).add (k * 4 + j) = ⟨g, k * 4 + j, none⟩ := by unfold Addr.add; split <;> simp_all
    rwa [hadd] at this
  exact ⟨hc 0 _ (by omega) rfl, hc 1 _ (by omega) rfl, hc 2 _ (by omega) rfl, hc 3 _ (by omega) rfl⟩

set_option maxHeartbeats 4000000 in
set_option maxRecDepth 100000 in
theorem places_walk (t : Ty) (v : Value) (w : World) (ht : TyAt w w.heap.size t v) :
    Calls Try.prog 4 #[v] w fun e w' => e = .returned (.bool true) ∧ Below w.heap.size w w' := by
  obtain ⟨fA, dA, bA, nA, fC, dC, bC, nC, rfl⟩ := ht.shape
  have HT0 := Lib.hid ht
  have HT := Lib.hid ((ht.later (below_new w (.cells #[.int .i64 t.c, .int .i64 t.w, .bool t.big, .slice fA t.fs.length fC, .slice dA t.ds.length dC, .slice bA t.bs.length bC, .slice nA t.ns.length nC] 28))).up (below_new w (.cells #[.int .i64 t.c, .int .i64 t.w, .bool t.big, .slice fA t.fs.length fC, .slice dA t.ds.length dC, .slice bA t.bs.length bC, .slice nA t.ns.length nC] 28)).size)
  have HBX := Lib.hid (Bx.new w 28 #[.int .i64 t.c, .int .i64 t.w, .bool t.big, .slice fA t.fs.length fC, .slice dA t.ds.length dC, .slice bA t.bs.length bC, .slice nA t.ns.length nC])
  clear ht
  by_cases hbig : t.left 2000 ≤ 0
  · have HBG := Lib.hid (decide_eq_true hbig)
    clear hbig
    go_enter Try.func4, Try.ntmps4
    go_wp2_with (go_at_call 12; refine (big_any t _ _ ?_).mono ?_)
    · exact HT.out
    rintro _ w2 ⟨he, hb2⟩
    rw [HBG.out] at he
    subst he
    have HW := Lib.hid (below_more (below_new _ _) hb2)
    clear hb2
    go_wp2_with (go_at_call 13; refine (lives_any _).mono ?_)
    rintro _ w3 ⟨rfl, hb3⟩
    have HW3 := Lib.hid (below_more HW.out hb3)
    clear hb3
    go_wp2
    go_ret
    exact ⟨rfl, HW3.out⟩
  have HBG := Lib.hid (decide_eq_false hbig)
  clear hbig
  by_cases hz : sz 4 t = 0
  · have HZ := Lib.hid hz
    clear hz
    go_enter Try.func4, Try.ntmps4
    go_wp2_with (go_at_call 12; refine (big_any t _ _ ?_).mono ?_)
    · exact HT.out
    rintro _ w2 ⟨he, hb2⟩
    rw [HBG.out] at he
    subst he
    have HW := Lib.hid (below_more (below_new _ _) hb2)
    have hbx := HBX.out.later hb2 (by simp)
    have HBX2 := Lib.hid hbx
    have c0 := hbx.cell 0
    have c1 := hbx.cell 1
    have c2 := hbx.cell 2
    have c3 := hbx.cell 3
    have c4 := hbx.cell 4
    have c5 := hbx.cell 5
    have c6 := hbx.cell 6
    clear hb2 hbx
    go_wp2_with (go_at_call 19; refine (places_no t _ w2 ((HT0.out.later HW.out).up HW.out.size) HZ.out).mono ?_)
    rintro _ w3 ⟨rfl, hb3⟩
    have HW3 := Lib.hid (below_more HW.out hb3)
    have hbx := HBX2.out.later hb3 HBX2.out.lt
    clear c0 c1 c2 c3 c4 c5 c6
    have c0 := hbx.cell 0
    have c1 := hbx.cell 1
    have c2 := hbx.cell 2
    have c3 := hbx.cell 3
    have c4 := hbx.cell 4
    have c5 := hbx.cell 5
    have c6 := hbx.cell 6
    clear hb3 hbx
    go_wp2_with (go_at_call 20; refine (rplaces_no t _ w3 ((HT0.out.later HW3.out).up HW3.out.size) HZ.out).mono ?_)
    rintro _ w4 ⟨rfl, hb4⟩
    have HW4 := Lib.hid (below_more HW3.out hb4)
    clear hb4 c0 c1 c2 c3 c4 c5 c6
    go_wp2
    go_loop [7] (fun i => i = .int .i64 0) (fun _ => 0)
    case atStart => rfl
    case round =>
      obtain rfl := hrel
      go_wp2_with (go_at_call 13; refine (lives_any _).mono ?_)
      rintro _ w5 rfl hb5
      have HW5 := Lib.hid (below_more HW4.out hb5)
      clear hb5
      go_wp2
      go_ret
      exact ⟨rfl, HW5.out⟩
  · have HZ := Lib.hid hz
    have hpl := (pls_ap 4 (by omega) t 0 hz).2
    have hplu := pls_len 4 (by omega) t 0 hz
    have hle := sz_le 4 t
    have hpl2 : (pls t 0).length ≤ 256 := by omega
    clear hz hplu hle
    generalize hxs : pls t 0 = xs at hpl hpl2
    have HXS := Lib.hid hxs
    clear hxs
    go_enter Try.func4, Try.ntmps4
    go_wp2_with (go_at_call 12; refine (big_any t _ _ ?_).mono ?_)
    · exact HT.out
    rintro _ w2 ⟨he, hb2⟩
    rw [HBG.out] at he
    subst he
    have HW := Lib.hid (below_more (below_new _ _) hb2)
    have hbx := HBX.out.later hb2 (by simp)
    have HBX2 := Lib.hid hbx
    have c0 := hbx.cell 0
    have c1 := hbx.cell 1
    have c2 := hbx.cell 2
    have c3 := hbx.cell 3
    have c4 := hbx.cell 4
    have c5 := hbx.cell 5
    have c6 := hbx.cell 6
    clear hb2 hbx
    go_wp2_with (go_at_call 19; refine (places_yes t _ w2 ((HT0.out.later HW.out).up HW.out.size) HZ.out).mono ?_)
    rintro _ w3 ⟨V, rfl, ho, hb3⟩
    rw [HXS.out] at ho
    obtain ⟨g, cap, rfl, hg1, hg2⟩ := ho.form hpl
    have HW3 := Lib.hid (below_more HW.out hb3)
    have HO := Lib.hid ho
    have hbx := HBX2.out.later hb3 HBX2.out.lt
    clear c0 c1 c2 c3 c4 c5 c6
    have c0 := hbx.cell 0
    have c1 := hbx.cell 1
    have c2 := hbx.cell 2
    have c3 := hbx.cell 3
    have c4 := hbx.cell 4
    have c5 := hbx.cell 5
    have c6 := hbx.cell 6
    clear hb3 hbx ho
    go_wp2_with (go_at_call 20; refine (rplaces_yes t _ w3 ((HT0.out.later HW3.out).up HW3.out.size) HZ.out).mono ?_)
    rintro _ w4 ⟨V2, rfl, ho2, hb4⟩
    rw [HXS.out] at ho2
    obtain ⟨g2, cap2, rfl, hg3, hg4⟩ := World.ownsRow.form ho2 hpl
    have HW4 := Lib.hid (below_more HW3.out hb4)
    have HO2 := Lib.hid ho2
    have HB4 := Lib.hid hb4
    clear ho2 hb4 c0 c1 c2 c3 c4 c5 c6
    go_wp2
    go_loopw [7] (fun i W => ∃ (k q : Nat), k ≤ xs.length ∧ i = .int .i64 k ∧ W = w4.drewN q) (fun i _ => xs.length - (intOf i).toNat)
    case atStart => exact ⟨0, 0, Nat.zero_le _, rfl, rfl⟩
    case round =>
      obtain ⟨k, q, hk, rfl, rfl⟩ := hrel
      by_cases hlt : k < xs.length
      · obtain ⟨p0, p1, p2, p3⟩ := place_at HO.out hlt
        obtain ⟨r0, r1, r2, r3⟩ := place_at HO2.out hlt
        have p0 := (HB4.out.cell (p := ⟨g, k * 4, none⟩) hg2).trans p0
        have p1 := (HB4.out.cell (p := ⟨g, k * 4 + 1, none⟩) hg2).trans p1
        have p2 := (HB4.out.cell (p := ⟨g, k * 4 + 2, none⟩) hg2).trans p2
        have p3 := (HB4.out.cell (p := ⟨g, k * 4 + 3, none⟩) hg2).trans p3
        generalize xs[k].pos = x0 at *
        generalize xs[k].c = x1 at *
        generalize xs[k].w = x2 at *
        generalize xs[k].big = x3 at *
        have i0 : (0 : Int) ≤ (k : Int) := by omega
        have i1 : (k : Int) < (xs.length : Int) := by omega
        have n0 : (x0 != x0) = false := by simp
        have n1 : (x1 != x1) = false := by simp
        have n2 : (x2 != x2) = false := by simp
        have n3 : (x3 != x3) = false := by simp
        go_wp2
        go_quiet (fail)
        go_wp2
        exact ⟨⟨k + 1, q + nq, by omega, by go_num, rfl⟩, by simp [intOf]; omega⟩
      · obtain rfl : k = xs.length := by omega
        go_wp2_with (go_at_call 13; refine (lives_any _).mono ?_)
        rintro _ w5 ⟨rfl, hb5⟩
        have HW5 := Lib.hid (below_more (below_drewN HW4.out q) hb5)
        clear hb5
        go_wp2
        go_ret
        exact ⟨rfl, HW5.out⟩
end Go.Proofs.Ytbdhihgokkcmfaa.Ty9
