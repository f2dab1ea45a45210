/- The closure of Places at a compound. -/
import Derived.Test.YtbdhihgokkcmfaaPl
namespace Go.Proofs.Ytbdhihgokkcmfaa.Ty9
set_option linter.unusedVariables false
set_option linter.unusedSimpArgs false
open Go.RowKit Wd

def PlOk (d : Nat) : Prop := ∀ (gw go base B : Nat) (t : Ty) (v : Value) (p : Int) (V : Value) (xs : List Pl) (w : World), sz d t ≠ 0 → gw ≠ go → gw < base → go < base → B ≤ go → base ≤ w.heap.size →
  TyAt w B t v → PSt gw go base V xs w → 0 ≤ p → p + sz d t ≤ 1000 → xs.length + sz d t ≤ 1000 →
  Calls Try.prog 35 #[v, .int .i64 p, .pointer (some ⟨gw, 0, none⟩), .pointer (some ⟨go, 0, none⟩)] w (PPost gw go base V (xs ++ pls t p) w)

/-- What holds of the fields that are left. -/
structure CompLeft (d : Nat) (W p : Int) (all : List Pl) (fs : List Fd) (xs : List Pl) : Prop where
  ex : ∃ pre e, flds (sz d) W fs pre e = W ∧ 0 ≤ e ∧ e ≤ W ∧ xs.length + (W - e) ≤ 1000
  all : xs ++ plf fs p = all
theorem CompLeft.step {d : Nat} (hd : d ≤ 4) {W p : Int} (hW : 1 ≤ W) {all : List Pl} {f : Fd} {fs : List Fd} {xs : List Pl} (h : CompLeft d W p all (f :: fs) xs) :
    sz d f.ty ≠ 0 ∧ 0 ≤ f.pos ∧ f.pos + sz d f.ty ≤ W ∧ xs.length + sz d f.ty ≤ 1000 ∧ CompLeft d W p all fs (xs ++ pls f.ty (p + f.pos)) := by
  obtain ⟨pre, e, hf, he0, he1, hl⟩ := h.ex
  obtain ⟨h1, h2, h3, h4, h5, h6⟩ := flds_cons (show flds (sz d) W (f :: fs) pre e ≠ 0 by omega)
  have hn := pls_len d hd f.ty (p + f.pos) h1
  have hg := sz_ge d f.ty
  refine ⟨h1, by omega, h4, by omega, ⟨pre ++ [f.name], f.pos + sz d f.ty, flds_ok (by omega) _ _ _ h6, by omega, h4, ?_⟩, ?_⟩
  · rw [List.length_append]; omega
  · rw [List.append_assoc, ← plf_cons]; exact h.all

set_option maxHeartbeats 2000000 in
set_option maxRecDepth 100000 in
theorem pl_comp (d : Nat) (hd : d ≤ 3) (ih : PlOk d) (gw go base B : Nat) (t : Ty) (v : Value) (p : Int) (V : Value) (xs : List Pl) (w : World) (hc : t.c = 5) (hz : sz (d + 1) t ≠ 0) (hgg : gw ≠ go) (hgw : gw < base) (hgo : go < base) (hB : B ≤ go) (hb : base ≤ w.heap.size)
    (ht : TyAt w B t v) (hs : PSt gw go base V xs w) (hp0 : 0 ≤ p) (hp1 : p + sz (d + 1) t ≤ 1000) (hx : xs.length + sz (d + 1) t ≤ 1000) :
    Calls Try.prog 35 #[v, .int .i64 p, .pointer (some ⟨gw, 0, none⟩), .pointer (some ⟨go, 0, none⟩)] w (PPost gw go base V (xs ++ pls t p) w) := by
  obtain ⟨e, hw1, hw2, hbig, hll, hf1, hf2, hfl⟩ := sz_comp hc hz
  rw [e] at hp1 hx
  rw [pls_comp hc]
  clear e hz
  revert hc hw1 hw2 hbig hll hf1 hf2 hfl hp1 hx
  cases ht with
  | mk c wd bb fs ds bs ns fA dA bA nA fC dC bC nC fb fo db dO bbb bo nb nO fv bv hf hd' hb' hn hfz hnz hnr hcap hfA hdA hbA hnA hf0 hf1' hf2' hft hd0 hb0 hbt hn0' hn1' =>
  intro hc hp1 hx hw1 hw2 hbig hll hf1 hf2 hfl
  obtain rfl : c = 5 := hc
  obtain rfl : bb = false := hbig
  simp only [Ty.w, Ty.fs, Ty.ds, Ty.bs, Ty.ns] at *
  clear hnz hnr hdA hbA hnA hd0 hb0 hbt hn0' hn1'
  have HF0 := Lib.hid hf0
  have HF1 := Lib.hid hf1'
  have HF2 := Lib.hid hf2'
  have HFT := Lib.hid hft
  have IH := Lib.hid ih
  clear hf0 hf1' hf2' hft ih
  obtain ⟨rfl, hnf⟩ := hfA (by omega)
  have hlt := hs.out.lt
  have hlt2 := hs.walk.lt
  have HBN := Lib.hid (below_new w (.cells #[.int .i64 5, .int .i64 wd, .bool false, .slice (some ⟨fb, fo, none⟩) fs.length fC, .slice dA ds.length dC, .slice bA bs.length bC, .slice nA ns.length nC] 28))
  have HBX := Lib.hid (Bx.new w 28 #[.int .i64 5, .int .i64 wd, .bool false, .slice (some ⟨fb, fo, none⟩) fs.length fC, .slice dA ds.length dC, .slice bA bs.length bC, .slice nA ns.length nC])
  have HS := Lib.hid hs
  have HR0 := Lib.hid (Rs.start hs HBN.out)
  have HC0 := Lib.hid (show CompLeft d wd p (xs ++ plf fs p) fs xs from ⟨⟨[], 0, hfl, Int.le_refl _, by omega, by omega⟩, rfl⟩)
  have HOW := Lib.hid hs.own.lt
  clear hs hfl
  go_enter Try.func35, Try.ntmps35
  go_wp2
  go_loopw [28] (fun i wr => ∃ (k : Nat) (V' : Value) (ys : List Pl), k ≤ fs.length ∧ i = .int .i64 k ∧ CompLeft d wd p (xs ++ plf fs p) (fs.drop k) ys ∧ Rs gw go base V w V' ys wr) (fun i _ => fs.length - (intOf i).toNat)
  case atStart => exact ⟨0, V, xs, Nat.zero_le _, rfl, HC0.out, HR0.out⟩
  case round =>
    clear HBN HBX HR0 HC0
    obtain ⟨k, V', ys, hk, rfl, hcl, hr⟩ := hrel
    have HCL := Lib.hid hcl
    have HR := Lib.hid hr
    clear hcl hr
    by_cases hlt3 : k < fs.length
    · have HW := Lib.hid (HR.out.keep HS.out hB (by omega) hb)
      have hc := fun o : Nat => HW.out.cell (p := ⟨fb, o, none⟩) hnf
      have g0 := (hc (fo + k * 9)).trans (HF0.out k hlt3)
      have g1 := (hc (fo + k * 9 + 1)).trans (HF1.out k hlt3)
      have a0 : wr.cell? ⟨fb, fo + k * 9 + 2, none⟩ = some (fv k 0) := (hc _).trans (HF2.out k hlt3 0 (by omega))
      have a1 := (hc (fo + k * 9 + 2 + 1)).trans (HF2.out k hlt3 1 (by omega))
      have a2 := (hc (fo + k * 9 + 2 + 2)).trans (HF2.out k hlt3 2 (by omega))
      have a3 := (hc (fo + k * 9 + 2 + 3)).trans (HF2.out k hlt3 3 (by omega))
      have a4 := (hc (fo + k * 9 + 2 + 4)).trans (HF2.out k hlt3 4 (by omega))
      have a5 := (hc (fo + k * 9 + 2 + 5)).trans (HF2.out k hlt3 5 (by omega))
      have a6 := (hc (fo + k * 9 + 2 + 6)).trans (HF2.out k hlt3 6 (by omega))
      clear hc
      have hbt := HFT.out k hlt3
      obtain ⟨fA', dA', bA', nA', fC', dC', bC', nC', e0, e1, e2, e3, e4, e5, e6⟩ := hbt.cells
      have hln := hbt.lens
      rw [e0] at a0 hbt
      rw [e1] at a1 hbt
      rw [e2] at a2 hbt
      rw [e3] at a3 hbt
      rw [e4] at a4 hbt
      rw [e5] at a5 hbt
      rw [e6] at a6 hbt
      have HBT1 := Lib.hid (hbt.later HW.out)
      clear e0 e1 e2 e3 e4 e5 e6 hbt
      have hcl := HCL.out
      rw [List.drop_eq_getElem_cons hlt3] at hcl
      obtain ⟨k1, k2, k3, k4, k5⟩ := hcl.step (by omega) hw1
      have hsg := sz_ge d fs[k].ty
      have K5 := Lib.hid k5
      have K1 := Lib.hid k1
      have hr := HR.out
      have o0 := hr.st.walk.cell 0
      have hs1 := hr.gr.size
      have o1 := hr.st.walk.lt
      have HWm := Lib.hid (below_new wr (.cells (#[.string fs[k].name, .int .i64 fs[k].pos, .int .i64 fs[k].ty.c, .int .i64 fs[k].ty.w, .bool fs[k].ty.big, .slice fA' fs[k].ty.fs.length fC', .slice dA' fs[k].ty.ds.length dC', .slice bA' fs[k].ty.bs.length bC', .slice nA' fs[k].ty.ns.length nC']) 66))
      clear hcl k5 k1 hr HCL
      go_wp2_with (go_at_call 35; refine (IH.out gw go base B fs[k].ty _ (p + fs[k].pos) V' ys _ K1.out hgg hgw hgo hB ?_ ?_ ?_ ?_ ?_ ?_).mono ?_)
      · simp; omega
      · exact HBT1.out.keep fun q hq => HWm.out.cell (p := q) (by omega)
      · exact HR.out.st.below HWm.out
      · omega
      · omega
      · omega
      rintro _ w2 ⟨rfl, V2, hs2, hg2, ho2⟩
      have HR2 := Lib.hid ((HR.out.below HWm.out).step hs2 hg2 ho2)
      clear hs2 hg2 ho2 HBT1 HWm HR HW a0 a1 a2 a3 a4 a5 a6 g0 g1 o0
      go_wp2
      go_roundw
      case rel => exact ⟨k + 1, V2, _, by omega, by go_num, K5.out, HR2.out⟩
      case measure => simp [intOf]; omega
    · obtain rfl : k = fs.length := by omega
      have hcl := HCL.out
      rw [List.drop_length] at hcl
      have ha := hcl.all
      rw [plf, List.append_nil] at ha
      have HA := Lib.hid ha
      clear hcl ha
      go_wp2
      go_end0
      have hr := HR.out
      rw [← HA.out]
      exact ⟨rfl, V', hr.st, hr.gr, hr.ow⟩
end Go.Proofs.Ytbdhihgokkcmfaa.Ty9
