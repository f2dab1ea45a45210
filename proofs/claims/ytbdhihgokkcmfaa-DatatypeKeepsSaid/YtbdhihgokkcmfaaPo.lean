/- The closure of Places at any type; Places. -/
import Derived.Test.YtbdhihgokkcmfaaPn
import Derived.Laws.EntriesVeiled
namespace Go.Proofs.Ytbdhihgokkcmfaa.Ty9
set_option linter.unusedVariables false
set_option linter.unusedSimpArgs false
open Go.RowKit Wd

set_option maxHeartbeats 2000000 in
set_option maxRecDepth 100000 in
theorem pl_enum (d : Nat) (gw go base B : Nat) (t : Ty) (v : Value) (p : Int) (V : Value) (xs : List Pl) (w : World) (hc : t.c = 7) (hz : sz (d + 1) t ≠ 0) (hgg : gw ≠ go) (hgw : gw < base) (hgo : go < base) (hB : B ≤ go) (hb : base ≤ w.heap.size)
    (ht : TyAt w B t v) (hs : PSt gw go base V xs w) (hx : xs.length ≤ 1000) :
    Calls Try.prog 35 #[v, .int .i64 p, .pointer (some ⟨gw, 0, none⟩), .pointer (some ⟨go, 0, none⟩)] w (PPost gw go base V (xs ++ pls t p) w) := by
  obtain ⟨b, hbs, hbc, hn, e, hd1, hbig, hw0, hfn, hn1, hn2, hm⟩ := sz_enum hc hz
  have hpl : pls t p = [⟨p, b.c, b.w, b.big⟩] := by rw [pls_enum hc hbs, num_len (by omega) (by omega) (by omega), if_neg (by omega)]
  rw [hpl]
  clear hpl hz e hm hn
  revert hc; revert hbs; revert hbig; revert hw0; revert hfn; revert hn1; revert hn2
  cases ht with
  | mk c wd bb fs ds bs ns fA dA bA nA fC dC bC nC fb fo db dO bbb bo nb nO fv bv hf hd' hb' hn hfz hnz hnr hcap hfA hdA hbA hnA hf0 hf1' hf2' hft hd0 hb0' hbt hn0' hn1' =>
  intro hn2 hn1 hfn hw0 hbig hbs hc
  obtain rfl : c = 7 := hc
  obtain rfl : bb = false := hbig
  obtain rfl : bs = [b] := hbs
  obtain rfl : wd = 0 := hw0
  change fs.length + ds.length = 0 at hfn
  clear hfz hnz hnr hfA hdA hnA hf0 hf1' hf2' hft hd0 hn0' hn1'
  have HB0 := Lib.hid hb0'
  have HBT := Lib.hid hbt
  clear hb0' hbt
  obtain ⟨rfl, hnb⟩ := hbA (by simp)
  have hlt := hs.out.lt
  have hlt2 := hs.walk.lt
  have hBw : B ≤ w.heap.size := by omega
  have HBN := Lib.hid (below_new w (.cells #[.int .i64 7, .int .i64 0, .bool false, .slice fA fs.length fC, .slice dA ds.length dC, .slice (some ⟨bbb, bo, none⟩) 1 bC, .slice nA ns.length nC] 28))
  have hc := fun o : Nat => HBN.out.cell (p := ⟨bbb, o, none⟩) (by show bbb < w.heap.size; omega)
  have a0 := (hc bo).trans (HB0.out 0 (by simp) 0 (by omega))
  have a1 := (hc (bo + 1)).trans (HB0.out 0 (by simp) 1 (by omega))
  have a2 := (hc (bo + 2)).trans (HB0.out 0 (by simp) 2 (by omega))
  have a3 := (hc (bo + 3)).trans (HB0.out 0 (by simp) 3 (by omega))
  have a4 := (hc (bo + 4)).trans (HB0.out 0 (by simp) 4 (by omega))
  have a5 := (hc (bo + 5)).trans (HB0.out 0 (by simp) 5 (by omega))
  have a6 := (hc (bo + 6)).trans (HB0.out 0 (by simp) 6 (by omega))
  clear hc
  have hbt := HBT.out 0 (by simp)
  rw [show [b][0] = b from rfl] at hbt
  obtain ⟨fA', dA', bA', nA', fC', dC', bC', nC', e0, e1, e2, e3, e4, e5, e6⟩ := hbt.cells
  rw [e0] at a0
  rw [e1] at a1
  rw [e2] at a2
  rw [e3] at a3
  rw [e4] at a4
  rw [e5] at a5
  rw [e6] at a6
  clear e0 e1 e2 e3 e4 e5 e6 hbt HBT HB0
  have HS := Lib.hid hs
  have HS1 := Lib.hid (hs.below (HBN.out.drew))
  have o0 := (HBN.out.cell (p := ⟨gw, 0, none⟩) hlt2).trans (hs.walk.cell 0)
  have c5 := (Bx.new w 28 #[.int .i64 7, .int .i64 0, .bool false, .slice fA fs.length fC, .slice dA ds.length dC, .slice (some ⟨bbb, bo, none⟩) 1 bC, .slice nA ns.length nC]).cell 5
  have hc1 : b.c ≠ 4 ∧ b.c ≠ 5 ∧ b.c ≠ 6 ∧ b.c ≠ 7 := by omega
  have HC1 := Lib.hid hc1
  clear hs hc1 hbc
  go_enter Try.func35, Try.ntmps35
  go_wp2
  have hwa := size_alloc w (.cells #[.int .i64 7, .int .i64 0, .bool false, .slice fA fs.length fC, .slice dA ds.length dC, .slice (some ⟨bbb, bo, none⟩) 1 bC, .slice nA ns.length nC] 28)
  have HWA := Lib.hid hwa
  clear hwa
  generalize w.alloc (.cells #[.int .i64 7, .int .i64 0, .bool false, .slice fA fs.length fC, .slice dA ds.length dC, .slice (some ⟨bbb, bo, none⟩) 1 bC, .slice nA ns.length nC] 28) = wa at *
  go_still_tail 6, (by kernel_rfl)
  go_wp2_with (go_at_call 35; refine (pl_num gw go base hgg hgw hgo b.c b.w b.big _ _ _ _ p V xs _ HC1.out (by omega) ?_ ?_ ⟨_, _, _, rfl⟩ ⟨_, _, _, rfl⟩ ⟨_, _, _, rfl⟩ ⟨_, _, _, rfl⟩).mono ?_)
  · have := HWA.out; show base ≤ wa.heap.size; omega
  · exact HS1.out
  rintro _ w2 ⟨rfl, V2, hs2, hg2, ho2⟩
  have HR2 := Lib.hid ((Rs.start HS.out HBN.out.drew).step hs2 hg2 ho2)
  clear hs2 hg2 ho2 a0 a1 a2 a3 a4 a5 a6 o0
  go_wp2
  go_end0
  exact ⟨rfl, V2, HR2.out.st, HR2.out.gr, HR2.out.ow⟩

theorem pl_any (d : Nat) : d ≤ 4 → PlOk d := by
  induction d with
  | zero => intro _ gw go base B t v p V xs w hz; exact absurd rfl hz
  | succ d ih =>
    intro hd gw go base B t v p V xs w hz hgg hgw hgo hB hb ht hs hp0 hp1 hx
    have ih := ih (by omega)
    by_cases h5 : t.c = 5
    · exact pl_comp d (by omega) ih gw go base B t v p V xs w h5 hz hgg hgw hgo hB hb ht hs hp0 hp1 hx
    by_cases h6 : t.c = 6
    · exact pl_arr d (by omega) ih gw go base B t v p V xs w h6 hz hgg hgw hgo hB hb ht hs hp0 hp1 hx
    have hg := sz_ge (d + 1) t
    by_cases h7 : t.c = 7
    · exact pl_enum d gw go base B t v p V xs w h7 hz hgg hgw hgo hB hb ht hs (by omega)
    obtain ⟨hn, e⟩ := sz_nums h5 h6 h7 hz
    have hi := (numB_iff t).mp hn
    obtain ⟨fA, dA, bA, nA, fC, dC, bC, nC, rfl⟩ := ht.shape
    rw [num_len h5 h6 h7]
    by_cases h4 : t.c = 4
    · rw [if_pos h4, h4]
      exact pl_cplx gw go base hgg hgw hgo t.w t.big _ _ _ _ p V xs w (by omega) (by omega) (by omega) (by omega) (by omega) hb hs ⟨_, _, _, rfl⟩ ⟨_, _, _, rfl⟩ ⟨_, _, _, rfl⟩ ⟨_, _, _, rfl⟩
    · rw [if_neg h4]
      exact pl_num gw go base hgg hgw hgo t.c t.w t.big _ _ _ _ p V xs w ⟨h4, h5, h6, h7⟩ (by omega) hb hs ⟨_, _, _, rfl⟩ ⟨_, _, _, rfl⟩ ⟨_, _, _, rfl⟩ ⟨_, _, _, rfl⟩

set_option maxHeartbeats 2000000 in
set_option maxRecDepth 100000 in
theorem places_no (t : Ty) (v : Value) (w : World) (ht : TyAt w w.heap.size t v) (hz : sz 4 t = 0) :
    Calls Try.prog 19 #[v] w fun e w' => e = .returned (.tuple #[.slice none 0 0, .int .i64 15]) ∧ Below w.heap.size w w' := by
  obtain ⟨fA, dA, bA, nA, fC, dC, bC, nC, rfl⟩ := ht.shape
  have HT := Lib.hid ((ht.later (below_new w (.cells #[.int .i64 t.c, .int .i64 t.w, .bool t.big, .slice fA t.fs.length fC, .slice dA t.ds.length dC, .slice bA t.bs.length bC, .slice nA t.ns.length nC] 28))).up (below_new w (.cells #[.int .i64 t.c, .int .i64 t.w, .bool t.big, .slice fA t.fs.length fC, .slice dA t.ds.length dC, .slice bA t.bs.length bC, .slice nA t.ns.length nC] 28)).size)
  have HE := Lib.hid (show errV t = 15 from if_pos hz)
  clear ht hz
  go_enter Try.func19, Try.ntmps19
  go_wp2_with (go_at_call 17; refine (check_any t _ _ ?_).mono ?_)
  · exact HT.out
  rintro _ w2 ⟨he, hb2⟩
  rw [HE.out] at he
  subst he
  have HW := Lib.hid (below_more (below_new _ _) hb2)
  clear hb2
  go_wp2
  go_ret2
  exact ⟨rfl, HW.out⟩

set_option maxHeartbeats 2000000 in
set_option maxRecDepth 100000 in
theorem places_yes (t : Ty) (v : Value) (w : World) (ht : TyAt w w.heap.size t v) (hz : sz 4 t ≠ 0) :
    Calls Try.prog 19 #[v] w fun e w' => ∃ V, e = .returned (.tuple #[V, .int .i64 0]) ∧ w'.ownsRow w.heap.size 46 4 V (pls t 0).length ((pls t 0).flatMap Pl.cells) ∧ Below w.heap.size w w' := by
  obtain ⟨fA, dA, bA, nA, fC, dC, bC, nC, rfl⟩ := ht.shape
  have HT0 := Lib.hid ht
  have HT := Lib.hid ((ht.later (below_new w (.cells #[.int .i64 t.c, .int .i64 t.w, .bool t.big, .slice fA t.fs.length fC, .slice dA t.ds.length dC, .slice bA t.bs.length bC, .slice nA t.ns.length nC] 28))).up (below_new w (.cells #[.int .i64 t.c, .int .i64 t.w, .bool t.big, .slice fA t.fs.length fC, .slice dA t.ds.length dC, .slice bA t.bs.length bC, .slice nA t.ns.length nC] 28)).size)
  have HBX := Lib.hid (Bx.new w 28 #[.int .i64 t.c, .int .i64 t.w, .bool t.big, .slice fA t.fs.length fC, .slice dA t.ds.length dC, .slice bA t.bs.length bC, .slice nA t.ns.length nC])
  have HE := Lib.hid (show errV t = 0 from if_neg hz)
  have HZ := Lib.hid hz
  have hle := sz_le 4 t
  have hge := sz_ge 4 t
  clear ht hz
  go_enter Try.func19, Try.ntmps19
  go_wp2_with (go_at_call 17; refine (check_any t _ _ ?_).mono ?_)
  · exact HT.out
  rintro _ w2 ⟨he, hb2⟩
  rw [HE.out] at he
  subst he
  have HW := Lib.hid (below_more (below_new _ _) hb2)
  have HBX2 := Lib.hid (HBX.out.later hb2 (by simp))
  have c0 := HBX2.out.cell 0
  have c1 := HBX2.out.cell 1
  have c2 := HBX2.out.cell 2
  have c3 := HBX2.out.cell 3
  have c4 := HBX2.out.cell 4
  have c5 := HBX2.out.cell 5
  have c6 := HBX2.out.cell 6
  have hlt := HBX2.out.lt
  clear hb2 HBX HT
  go_wp2_with (go_at_call 35; refine (pl_any 4 (by omega) (w2.heap.size + 1) w2.heap.size (w2.heap.size + 1 + 1) w.heap.size t _ 0 (.slice none 0 0) [] _ HZ.out (by omega) (by omega) (by omega) (by omega) ?_ ?_ ?_ (by omega) (by omega) (by simp; omega)).mono ?_)
  · simp
  · exact HT0.out.later ((HW.out.alloc HW.out.size _).alloc (by have := HW.out.size; simp; omega) _)
  · refine ⟨Bx.new2 w2 _ _ _, ?_, World.ownsRow_nil _ _ _ _⟩
    exact (Bx.new w2 39 #[.slice none 0 0]).later (B := w2.heap.size + 1) ((Below.refl _ _).alloc (by simp) _) (by omega)
  rintro _ w3 ⟨rfl, V, hs3, hg3, ho3⟩
  have o0 := hs3.out.cell 0
  have HW3 := Lib.hid (show Below w.heap.size w w3 from (HW.out.alloc HW.out.size _).trans (((Below.refl _ _).alloc (by have := HW.out.size; simp; omega) _).trans (hg3.below (by have := HW.out.size; simp; omega) (by omega) (fun k hk => by cases hk))))
  have HO3 := Lib.hid hs3.own
  clear hs3 hg3 ho3
  go_wp2
  go_ret2
  refine ⟨V, rfl, own_base HO3.out (by omega), HW3.out⟩
end Go.Proofs.Ytbdhihgokkcmfaa.Ty9
