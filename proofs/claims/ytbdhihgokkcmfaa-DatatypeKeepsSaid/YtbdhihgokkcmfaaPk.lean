/- The closure of Places at a number. -/
import Derived.Test.YtbdhihgokkcmfaaPj
namespace Go.Proofs.Ytbdhihgokkcmfaa.Ty9
set_option linter.unusedVariables false
set_option linter.unusedSimpArgs false
open Go.RowKit Wd

theorem cells_len (xs : List Pl) : (xs.flatMap Pl.cells).length = xs.length * 4 := by
  induction xs with
  | nil => rfl
  | cons x xs ih => rw [List.flatMap_cons, List.length_append, ih]; simp [Pl.cells]; omega

/-- Behind the append and the store. -/
theorem PSt.put {gw go base : Nat} {V V' : Value} {xs ys : List Pl} {w w1 : World} (h : PSt gw go base V xs w) (hgg : gw ≠ go) (hgw : gw < base) (hgo : go < base)
    (hg : Gr go V.ownBlock w w1) (ho : Bx w1 go 39 #[V]) (hown : w1.ownsRow base 46 4 V' ys.length (ys.flatMap Pl.cells)) : PSt gw go base V' ys (w1.setCell ⟨go, 0, none⟩ V') := by
  obtain ⟨hn1, hn2⟩ := h.ne hgw hgo
  have hw1 := hg.bx h.walk hgg hn1
  exact ⟨(Below.heap_setCell _ _ _ _ hgg).trans hw1, ho.set_ 0 V', ownsRow_setCell_other hown (fun e => by have := (hown.lt go e).1; omega) V'⟩

set_option maxHeartbeats 2000000 in
set_option maxRecDepth 100000 in
theorem pl_num (gw go base : Nat) (hgg : gw ≠ go) (hgw : gw < base) (hgo : go < base) (c wd : Int) (bg : Bool) (f d b n : Value) (p : Int) (V : Value) (xs : List Pl) (w : World)
    (hc : c ≠ 4 ∧ c ≠ 5 ∧ c ≠ 6 ∧ c ≠ 7) (hx : xs.length ≤ 100000) (hb : base ≤ w.heap.size) (hs : PSt gw go base V xs w) (hf : ∃ a l c, f = .slice a l c) (hd : ∃ a l c, d = .slice a l c) (hbb : ∃ a l c, b = .slice a l c) (hn : ∃ a l c, n = .slice a l c) :
    Calls Try.prog 35 #[.agg #[.int .i64 c, .int .i64 wd, .bool bg, f, d, b, n], .int .i64 p, .pointer (some ⟨gw, 0, none⟩), .pointer (some ⟨go, 0, none⟩)] w (PPost gw go base V (xs ++ [⟨p, c, wd, bg⟩]) w) := by
  obtain ⟨fa, fl, fc, rfl⟩ := hf
  obtain ⟨da, dl, dc, rfl⟩ := hd
  obtain ⟨ba, bl, bc, rfl⟩ := hbb
  obtain ⟨na, nl, nc, rfl⟩ := hn
  obtain ⟨i0, hi0, hz0, hz1, hz2⟩ := info_parts place_info
  obtain ⟨hn1, hn2⟩ := hs.ne hgw hgo
  have c4 : (c == 4) = false := beq_eq_false_iff_ne.mpr hc.1
  have c5 : (c == 5) = false := beq_eq_false_iff_ne.mpr hc.2.1
  have c6 : (c == 6) = false := beq_eq_false_iff_ne.mpr hc.2.2.1
  have c7 : (c == 7) = false := beq_eq_false_iff_ne.mpr hc.2.2.2
  have hlt := hs.out.lt
  have HBX := Lib.hid (Bx.new w 28 #[.int .i64 c, .int .i64 wd, .bool bg, .slice fa fl fc, .slice da dl dc, .slice ba bl bc, .slice na nl nc])
  have HBN := Lib.hid (below_new w (.cells #[.int .i64 c, .int .i64 wd, .bool bg, .slice fa fl fc, .slice da dl dc, .slice ba bl bc, .slice na nl nc] 28))
  have HS1 := Lib.hid (hs.below HBN.out)
  have o0 := (hs.out.cell 0)
  generalize hA : (Obj.cells #[.int .i64 c, .int .i64 wd, .bool bg, .slice fa fl fc, .slice da dl dc, .slice ba bl bc, .slice na nl nc] 28) = OA at *
  have HA := Lib.hid hA
  have HS2 := Lib.hid (HS1.out.below (below_new _ (.cells #[.int .i64 p, .int .i64 c, .int .i64 wd, .bool bg] 46)))
  have HNW := Lib.hid (Bx.new2 w OA 46 #[.int .i64 p, .int .i64 c, .int .i64 wd, .bool bg])
  have HNC := Lib.hid (show ∀ j u, (Pl.cells ⟨p, c, wd, bg⟩)[j]? = some u → ((w.alloc OA).alloc (.cells #[.int .i64 p, .int .i64 c, .int .i64 wd, .bool bg] 46)).cell? ((⟨w.heap.size + 1, 0, none⟩ : Addr).add j) = some u from fun j u hu => by
    have hadd : (⟨w.heap.size + 1, 0, none⟩ : Addr).add j = ⟨w.heap.size + 1, j, none⟩ := by simp [Addr.add]; omega
    rw [hadd, HNW.out.cell j]
    simpa [Pl.cells] using hu)
  have HBB := Lib.hid (show base ≤ ((w.alloc OA).alloc (.cells #[.int .i64 p, .int .i64 c, .int .i64 wd, .bool bg] 46)).heap.size by simp; omega)
  have HWW := Lib.hid (show Below w.heap.size w ((w.alloc OA).alloc (.cells #[.int .i64 p, .int .i64 c, .int .i64 wd, .bool bg] 46)) from below_more (below_new _ _) (below_new _ _))
  subst hA
  have HS := Lib.hid hs
  clear hs hc
  go_enter Try.func35, Try.ntmps35
  go_wp2_with (at_builtin; refine wpList_append_own_at _ rfl (.tmp 12) (.tmp 21) 39 rfl base 46 i0 _ 4 32 Try.underlying39 hi0 hz0 hz1 hz2 rfl (by decide) V xs.length (xs.flatMap Pl.cells) rfl HS2.out.own ⟨w.heap.size + 1, 0, none⟩ 1 1 (Pl.cells ⟨p, c, wd, bg⟩) rfl rfl HNC.out (by simp [Pl.cells, Value.oneCell']) (by unfold maxLen; omega) (by omega) HBB.out ?_; intro V' w1 hown1 hg1 _ hat1; obtain ⟨A1, C1, rfl⟩ := own_form hown1; have ho1 := Bx.cell (show Bx w1 go 39 #[V] from (hg1.block go (by simp; omega) hn2).trans HS2.out.out) 0; have ho2 := Bx.frozen (show Bx w1 go 39 #[V] from (hg1.block go (by simp; omega) hn2).trans HS2.out.out) 0)
  have HG1 := Lib.hid (Gr.trans (Gr.of_below HWW.out) (.inl rfl) (Gr.of_grown (go := go) hg1))
  have HO1 := Lib.hid (show Bx w1 go 39 #[V] from (hg1.block go (by simp; omega) hn2).trans HS2.out.out)
  have HOW := Lib.hid hown1
  clear hg1 hown1
  go_end0
  refine ⟨rfl, _, HS.out.put hgg hgw hgo HG1.out HO1.out ?_, HG1.out.set 0 _, ?_⟩
  · have h := HOW.out
    rw [List.length_append, List.flatMap_append]
    simpa using h
  · rcases hat1 with h | h
    · exact .inl h
    · exact .inr ⟨_, h, by simp; omega⟩

set_option maxHeartbeats 2000000 in
set_option maxRecDepth 100000 in
theorem pl_cplx (gw go base : Nat) (hgg : gw ≠ go) (hgw : gw < base) (hgo : go < base) (wd : Int) (bg : Bool) (f d b n : Value) (p : Int) (V : Value) (xs : List Pl) (w : World)
    (hp0 : -1000000 ≤ p) (hp1 : p ≤ 1000000) (hw0 : 0 ≤ wd) (hw1 : wd ≤ 1000000) (hx : xs.length ≤ 99999) (hb : base ≤ w.heap.size) (hs : PSt gw go base V xs w) (hf : ∃ a l c, f = .slice a l c) (hd : ∃ a l c, d = .slice a l c) (hbb : ∃ a l c, b = .slice a l c) (hn : ∃ a l c, n = .slice a l c) :
    Calls Try.prog 35 #[.agg #[.int .i64 4, .int .i64 wd, .bool bg, f, d, b, n], .int .i64 p, .pointer (some ⟨gw, 0, none⟩), .pointer (some ⟨go, 0, none⟩)] w (PPost gw go base V (xs ++ [⟨p, 3, wd, bg⟩, ⟨p + wd, 3, wd, bg⟩]) w) := by
  obtain ⟨fa, fl, fc, rfl⟩ := hf
  obtain ⟨da, dl, dc, rfl⟩ := hd
  obtain ⟨ba, bl, bc, rfl⟩ := hbb
  obtain ⟨na, nl, nc, rfl⟩ := hn
  obtain ⟨hn1, hn2⟩ := hs.ne hgw hgo
  have hlt := hs.out.lt
  have hlt2 := hs.walk.lt
  have HBN := Lib.hid (below_new w (.cells #[.int .i64 3, .int .i64 wd, .bool bg, .slice fa fl fc, .slice da dl dc, .slice ba bl bc, .slice na nl nc] 28))
  have HBX := Lib.hid (Bx.new w 28 #[.int .i64 3, .int .i64 wd, .bool bg, .slice fa fl fc, .slice da dl dc, .slice ba bl bc, .slice na nl nc])
  have HS1 := Lib.hid (hs.below HBN.out)
  have o0 := hs.walk.cell 0
  have hown := hs.own.lt
  have HOW := Lib.hid hown
  clear hs hown
  go_enter Try.func35, Try.ntmps35
  go_wp2_with (go_at_call 35; refine (pl_num gw go base hgg hgw hgo 3 wd bg _ _ _ _ p V xs _ (by omega) (by omega) ?_ ?_ ⟨_, _, _, rfl⟩ ⟨_, _, _, rfl⟩ ⟨_, _, _, rfl⟩ ⟨_, _, _, rfl⟩).mono ?_)
  · simp; omega
  · exact HS1.out
  rintro _ w2 ⟨rfl, V2, hs2, hg2, ho2⟩
  have HS2 := Lib.hid hs2
  have hlt3 := hg2.size
  simp at hlt3
  have HG2 := Lib.hid hg2
  have HO2 := Lib.hid ho2
  have hw2 := hs2.walk.cell 0
  have hbx2 := hg2.bx HBX.out (by omega) (fun e => by have := (HOW.out _ e.symm).2; omega)
  have b0 := hbx2.cell 0
  have b1 := hbx2.cell 1
  have b2 := hbx2.cell 2
  have b3 := hbx2.cell 3
  have b4 := hbx2.cell 4
  have b5 := hbx2.cell 5
  have b6 := hbx2.cell 6
  clear hs2 hg2 ho2 hbx2 o0
  go_wp2_with (go_at_call 35; refine (pl_num gw go base hgg hgw hgo 3 wd bg _ _ _ _ (p + wd) V2 (xs ++ [⟨p, 3, wd, bg⟩]) w2 (by omega) (by rw [List.length_append]; exact Nat.succ_le_succ hx) ?_ ?_ ⟨_, _, _, rfl⟩ ⟨_, _, _, rfl⟩ ⟨_, _, _, rfl⟩ ⟨_, _, _, rfl⟩).mono ?_)
  · omega
  · exact HS2.out
  rintro _ w3 ⟨rfl, V3, hs3, hg3, ho3⟩
  have HS3 := Lib.hid hs3
  have HG3 := Lib.hid hg3
  have HO3 := Lib.hid ho3
  clear hs3 hg3 ho3
  go_wp2
  go_end0
  refine ⟨rfl, V3, ?_, ?_, ?_⟩
  · have h := HS3.out
    rw [List.append_assoc] at h
    exact h
  · refine (Gr.of_below HBN.out).trans (.inl rfl) (HG2.out.trans ?_ HG3.out)
    exact HO2.out
  · have h2 := HO2.out
    have h3 := HO3.out
    rcases h3 with h3 | ⟨k, h3, hk⟩
    · rcases h2 with h2 | ⟨k, h2, hk⟩
      · exact .inl (h3.trans h2)
      · exact .inr ⟨k, h3.trans h2, by simp at hk; omega⟩
    · exact .inr ⟨k, h3, by omega⟩
end Go.Proofs.Ytbdhihgokkcmfaa.Ty9
