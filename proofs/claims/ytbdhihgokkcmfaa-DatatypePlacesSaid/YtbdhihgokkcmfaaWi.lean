/- The reference's numbers within a type. -/
import Derived.Test.YtbdhihgokkcmfaaAa
import Derived.Test.YtbdhihgokkcmfaaLc
import Derived.Deep.RegionHeld3
import Derived.Deep.DrawnRows
import Derived.OwnWalk
namespace Go.Proofs.Ytbdhihgokkcmfaa.Ty9
set_option linter.unusedVariables false
set_option linter.unusedSimpArgs false
open Go.RowKit Wd

attribute [local go_sem ↓] Go.wp_at_zero Go.wp_at_succ

theorem rplace_info : (Try.prog.info? 48).map (fun i => (i.zero, i.size, i.bytes)) = some (some (.agg #[.int .i64 0, .int .i64 0, .int .i64 0, .bool false]), 4, 32) := by kernel_rfl
/-- A row of the reference's places. -/
def RowP (w : World) (base : Nat) (V : Value) (xs : List Pl) : Prop := w.ownsRow base 48 4 V xs.length (xs.flatMap Pl.cells)
theorem RowP.below {w w' : World} {base : Nat} {V : Value} {xs : List Pl} (h : RowP w base V xs) (hb : Below w.heap.size w w') : RowP w' base V xs :=
  h.kept ⟨hb.os, hb.tape, hb.output, hb.size, fun k hk _ => hb.block k hk⟩ (by
    rcases hv : V.ownBlock with _ | k
    · exact .inl rfl
    · exact .inr (fun e => by injection e with e; exact absurd e (Nat.ne_of_lt (World.ownsRow.lt h k hv).2)) : V.ownBlock = none ∨ V.ownBlock ≠ some w.heap.size)
theorem one_cells (xs : List Pl) : ∀ u ∈ xs.flatMap Pl.cells, u.oneCell' = true := by
  intro u hu
  obtain ⟨x, _, hx⟩ := List.mem_flatMap.mp hu
  simp only [Pl.cells, List.mem_cons, List.not_mem_nil, or_false] at hx
  rcases hx with rfl | rfl | rfl | rfl <;> rfl

theorem step_rowp {ops : Array Oper} {o : Oper} {a : Act} {w : World} {K : Act → World → Prop} {Q : Exit → Act → World → Prop} {E : Prop} (hgd : o.guard = none) (s x : Operand)
    (ho : o.op = .call { callee := .builtin .append, args := #[s, x], argTypes := #[42, 42] })
    (base b2 : Nat) (V V2 : Value) (xs ys : List Pl) (hs : a.eval s = V) (hx : a.eval x = V2) (h1 : RowP w base V xs) (h2 : RowP w b2 V2 ys) (hy : 0 < ys.length) (hl : xs.length + ys.length ≤ 100000) (hbase : base ≤ w.heap.size)
    (h : ∀ V' w', RowP w' base V' (xs ++ ys) → Below base w w' → K (a.put o.dst V') w') :
    if Region.wanted o (yielded ops a.tmps) = true then Oper.wp Try.prog o a w K Q else E := by
  have hw : Region.wanted o (yielded ops a.tmps) = true := by simp [Region.wanted, hgd]
  rw [if_pos hw]
  obtain ⟨i0, hi0, hz0, hz1, hz2⟩ := info_parts rplace_info
  obtain ⟨g, cap, rfl, _, _⟩ := World.ownsRow.form h2 hy
  obtain ⟨V', w', hr, k1, k2, _, k3⟩ := run_append_own_at (P := Try.prog) w base 42 o.type 48 i0 _ 4 32 Try.underlying42 hi0 hz0 hz1 hz2 rfl (by decide) V xs.length (xs.flatMap Pl.cells) h1 ⟨g, 0, none⟩ ys.length cap (ys.flatMap Pl.cells) (cells_len ys)
    (World.ownsRow.cells h2 rfl) (one_cells ys) (by unfold maxLen; omega) (by omega) hbase
  unfold Oper.wp execOp
  simp only [ho, resolve, invoke, builtin, Sem.run_bind, Sem.run_pure, Result.andThen_ok, List.map_toArray, List.map_cons, List.map_nil, hs, hx, hr]
  refine h V' w' ?_ ((Below.refl _ _).grown k2 hbase (fun k hk => (World.ownsRow.lt h1 k hk).1))
  unfold RowP
  rw [List.length_append, List.flatMap_append]
  exact k1

theorem wp_rowp {ops : Array Oper} {rest : List Oper} {o : Oper} {a : Act} {w : World} {Q : Exit → Act → World → Prop} (hgd : o.guard = none) (s x : Operand)
    (ho : o.op = .call { callee := .builtin .append, args := #[s, x], argTypes := #[42, 42] })
    (base b2 : Nat) (V V2 : Value) (xs ys : List Pl) (hs : a.eval s = V) (hx : a.eval x = V2) (h1 : RowP w base V xs) (h2 : RowP w b2 V2 ys) (hy : 0 < ys.length) (hl : xs.length + ys.length ≤ 100000) (hbase : base ≤ w.heap.size)
    (h : ∀ V' w', RowP w' base V' (xs ++ ys) → Below base w w' → wpList Try.prog ops Q rest (a.put o.dst V') w') : wpList Try.prog ops Q (o :: rest) a w := by
  refine wpList_plain hgd fun K hK => ?_
  have hw : Region.wanted o (yielded ops a.tmps) = true := by simp [Region.wanted, hgd]
  have := step_rowp (ops := ops) (E := True) (Q := Q) (K := K) hgd s x ho base b2 V V2 xs ys hs hx h1 h2 hy hl hbase (fun V' w' k1 k2 => hK _ _ (h V' w' k1 k2))
  rw [if_pos hw] at this
  exact this

def WinOk (d : Nat) : Prop := ∀ (t : Ty) (v : Value) (p : Int) (w : World), sz d t ≠ 0 → TyAt w w.heap.size t v → 0 ≤ p → p + sz d t ≤ 1000 →
  Calls Try.prog 36 #[v, .int .i64 p] w fun e w' => ∃ V, e = .returned V ∧ RowP w' w.heap.size V (pls t p) ∧ Below w.heap.size w w'

set_option maxHeartbeats 4000000 in
set_option maxRecDepth 100000 in
theorem win_comp (d : Nat) (hd : d ≤ 3) (ih : WinOk d) (t : Ty) (v : Value) (p : Int) (w : World) (hc : t.c = 5) (hz : sz (d + 1) t ≠ 0) (ht : TyAt w w.heap.size t v) (hp0 : 0 ≤ p) (hp1 : p + sz (d + 1) t ≤ 1000) :
    Calls Try.prog 36 #[v, .int .i64 p] w fun e w' => ∃ V, e = .returned V ∧ RowP w' w.heap.size V (pls t p) ∧ Below w.heap.size w w' := by
  obtain ⟨e, hw1, hw2, hbig, hll, hf1, hf2, hfl⟩ := sz_comp hc hz
  rw [e] at hp1
  rw [pls_comp hc]
  clear e hz
  revert hc; revert hw1; revert hw2; revert hbig; revert hll; revert hf1; revert hf2; revert hfl; revert hp1
  cases ht with
  | mk c wd bb fs ds bs ns fA dA bA nA fC dC bC nC fb fo db dO bbb bo nb nO fv bv hf hd' hb' hn hfz hnz hnr hcap hfA hdA hbA hnA hf0 hf1' hf2' hft hd0 hb0 hbt hn0' hn1' =>
  intro hp1 hfl hf2 hf1 hll hbig hw2 hw1 hc
  obtain rfl : c = 5 := hc
  obtain rfl : bb = false := hbig
  simp only [Ty.w, Ty.fs, Ty.ds, Ty.bs, Ty.ns] at *
  clear hfz hnz hnr hdA hbA hnA hd0 hb0 hbt hn0' hn1'
  have HF1 := Lib.hid hf1'
  have HF2 := Lib.hid hf2'
  have HFT := Lib.hid hft
  have IH := Lib.hid ih
  clear hf0 hf1' hf2' hft ih
  obtain ⟨rfl, hnf⟩ := hfA (by omega)
  have HBN := Lib.hid (below_new w (.cells #[.int .i64 5, .int .i64 wd, .bool false, .slice (some ⟨fb, fo, none⟩) fs.length fC, .slice dA ds.length dC, .slice bA bs.length bC, .slice nA ns.length nC] 28))
  have HBX := Lib.hid (Bx.new w 28 #[.int .i64 5, .int .i64 wd, .bool false, .slice (some ⟨fb, fo, none⟩) fs.length fC, .slice dA ds.length dC, .slice bA bs.length bC, .slice nA ns.length nC])
  have HC0 := Lib.hid (show CompLeft d wd p (plf fs p) fs [] from ⟨⟨[], 0, hfl, Int.le_refl _, by omega, by show (0 : Int) + _ ≤ _; omega⟩, by rw [List.nil_append]⟩)
  generalize htot : plf fs p = tot
  have HTOT := Lib.hid htot
  clear hfl htot
  go_enter Try.func36, Try.ntmps36
  go_wp2
  go_loopw [5, 6] (fun x i wr => ∃ (k : Nat) (V : Value) (ys : List Pl), k ≤ fs.length ∧ x = V ∧ i = .int .i64 k ∧ CompLeft d wd p (plf fs p) (fs.drop k) ys ∧ RowP wr (w.heap.size + 1) V ys ∧ w.heap.size + 1 ≤ wr.heap.size ∧ Below w.heap.size w wr ∧
      Bx wr w.heap.size 28 #[.int .i64 5, .int .i64 wd, .bool false, .slice (some ⟨fb, fo, none⟩) fs.length fC, .slice dA ds.length dC, .slice bA bs.length bC, .slice nA ns.length nC]) (fun _ i _ => fs.length - (intOf i).toNat)
  case atStart => exact ⟨0, _, [], Nat.zero_le _, rfl, rfl, HC0.out, World.ownsRow_nil _ _ _ _, by simp, HBN.out, HBX.out⟩
  case round =>
    clear HBN HBX HC0
    obtain ⟨k, V, ys, hk, rfl, rfl, hcl, hrow, hsz, hW, hB⟩ := hrel
    have c3 := hB.cell 3
    have HCL := Lib.hid hcl
    have HROW := Lib.hid hrow
    have HSZ := Lib.hid hsz
    have HW := Lib.hid hW
    have HB := Lib.hid hB
    clear hcl hrow hW hB
    by_cases hlt3 : k < fs.length
    · have hc := fun o : Nat => HW.out.cell (p := ⟨fb, o, none⟩) hnf
      have g1 := (hc (fo + k * 9 + 1)).trans (HF1.out k hlt3)
      have a0 : wr.cell? ⟨fb, fo + k * 9 + 2, none⟩ = some (fv k 0) := (hc _).trans (HF2.out k hlt3 0 (by omega))
      have a1 := (hc (fo + k * 9 + 2 + 1)).trans (HF2.out k hlt3 1 (by omega))
      have a2 := (hc (fo + k * 9 + 2 + 2)).trans (HF2.out k hlt3 2 (by omega))
      have a3 := (hc (fo + k * 9 + 2 + 3)).trans (HF2.out k hlt3 3 (by omega))
      have a4 := (hc (fo + k * 9 + 2 + 4)).trans (HF2.out k hlt3 4 (by omega))
      have a5 := (hc (fo + k * 9 + 2 + 5)).trans (HF2.out k hlt3 5 (by omega))
      have a6 := (hc (fo + k * 9 + 2 + 6)).trans (HF2.out k hlt3 6 (by omega))
      have hbt := HFT.out k hlt3
      obtain ⟨fA', dA', bA', nA', fC', dC', bC', nC', e0, e1, e2, e3, e4, e5, e6⟩ := hbt.cells
      rw [e0] at a0 hbt
      rw [e1] at a1 hbt
      rw [e2] at a2 hbt
      rw [e3] at a3 hbt
      rw [e4] at a4 hbt
      rw [e5] at a5 hbt
      rw [e6] at a6 hbt
      have HBT1 := Lib.hid (((hbt.later HW.out).up HW.out.size).drew)
      clear e0 e1 e2 e3 e4 e5 e6 hbt hc
      have hcl := HCL.out
      rw [List.drop_eq_getElem_cons hlt3] at hcl
      obtain ⟨k1, k2, k3, k4, k5⟩ := hcl.step (by omega) hw1
      have hsg := sz_ge d fs[k].ty
      have hpn := (pls_ap d (by omega) fs[k].ty (p + fs[k].pos) k1).2
      have hpl := pls_len d (by omega) fs[k].ty (p + fs[k].pos) k1
      have K5 := Lib.hid k5
      have K1 := Lib.hid k1
      have hq0 : 0 ≤ p + fs[k].pos := by omega
      have hq1 : p + fs[k].pos + sz d fs[k].ty ≤ 1000 := by omega
      have HQ0 := Lib.hid hq0
      have HQ1 := Lib.hid hq1
      have hll2 : ys.length + (pls fs[k].ty (p + fs[k].pos)).length ≤ 100000 := by omega
      have HLL := Lib.hid hll2
      have HPN := Lib.hid hpn
      have hkl : (k : Int) < (fs.length : Int) := by omega
      have hk0 : (0 : Int) ≤ (k : Int) := by omega
      have HROWd := Lib.hid (HROW.out.below (Below.refl _ _).drew)
      have hwr : IntKind.i64.wrap (p + fs[k].pos) = p + fs[k].pos := by rw [IntKind.wrap_i64]; omega
      clear hcl k5 k1 HCL hll2 hpn hpl
      go_wp2
      go_region_held3 (fun w' => w'.cell? ⟨w.heap.size, 3, none⟩ = some (.slice (some ⟨fb, fo, none⟩) fs.length fC) ∧ w'.cell? ⟨fb, fo + k * 9 + 1, none⟩ = some (.int .i64 fs[k].pos) ∧
          w'.cell? ⟨fb, fo + k * 9 + 2, none⟩ = some (.int .i64 fs[k].ty.c) ∧ w'.cell? ⟨fb, fo + k * 9 + 2 + 1, none⟩ = some (.int .i64 fs[k].ty.w) ∧ w'.cell? ⟨fb, fo + k * 9 + 2 + 2, none⟩ = some (.bool fs[k].ty.big) ∧
          w'.cell? ⟨fb, fo + k * 9 + 2 + 3, none⟩ = some (.slice fA' fs[k].ty.fs.length fC') ∧ w'.cell? ⟨fb, fo + k * 9 + 2 + 4, none⟩ = some (.slice dA' fs[k].ty.ds.length dC') ∧ w'.cell? ⟨fb, fo + k * 9 + 2 + 5, none⟩ = some (.slice bA' fs[k].ty.bs.length bC') ∧ w'.cell? ⟨fb, fo + k * 9 + 2 + 6, none⟩ = some (.slice nA' fs[k].ty.ns.length nC'))
        (first
          | (exact ⟨(hk3 _ _ (by omega)).trans c3, (hk3 _ _ (by omega)).trans g1, (hk3 _ _ (by omega)).trans a0, (hk3 _ _ (by omega)).trans a1, (hk3 _ _ (by omega)).trans a2, (hk3 _ _ (by omega)).trans a3, (hk3 _ _ (by omega)).trans a4, (hk3 _ _ (by omega)).trans a5, (hk3 _ _ (by omega)).trans a6⟩)
          | (exact ⟨(hk2 _ _ (by omega)).trans c3, (hk2 _ _ (by omega)).trans g1, (hk2 _ _ (by omega)).trans a0, (hk2 _ _ (by omega)).trans a1, (hk2 _ _ (by omega)).trans a2, (hk2 _ _ (by omega)).trans a3, (hk2 _ _ (by omega)).trans a4, (hk2 _ _ (by omega)).trans a5, (hk2 _ _ (by omega)).trans a6⟩)
          | go_keep)
        (first
          | (go_at_call 36; refine (IH.out fs[k].ty _ (p + fs[k].pos) _ K1.out HBT1.out HQ0.out HQ1.out).mono ?_; rintro _ w2 ⟨V2, rfl, hrow2, hb2⟩; have hk2 : ∀ (b o : Nat), b < w.heap.size + 1 → w2.cell? ⟨b, o, none⟩ = wr.cell? ⟨b, o, none⟩ := fun b o hb => hb2.cell (p := ⟨b, o, none⟩) (by show b < wr.heap.size; omega); have HR2 := Lib.hid (HROWd.out.below hb2); have HRB := Lib.hid hrow2; have HBB := Lib.hid (show w.heap.size + 1 ≤ w2.heap.size from Nat.le_trans HSZ.out hb2.size); have HB2 := Lib.hid hb2; clear hrow2 hb2)
          | (refine step_rowp (by rfl) (.tmp 31) (.tmp 46) (by rfl) (w.heap.size + 1) _ _ V2 ys (pls fs[k].ty (p + fs[k].pos)) (by rfl) (by rfl) HR2.out HRB.out HPN.out HLL.out HBB.out ?_; intro V3 w3 hrow3 hb3; have hk3 : ∀ (b o : Nat), b < w.heap.size + 1 → w3.cell? ⟨b, o, none⟩ = wr.cell? ⟨b, o, none⟩ := fun b o hb => (hb3.cell (p := ⟨b, o, none⟩) hb).trans (hk2 b o hb)))
      have HR3 := Lib.hid hrow3
      have HW3 := Lib.hid (HW.out.trans (((Below.refl w.heap.size wr).drew.trans (HB2.out.mono (by show w.heap.size ≤ wr.heap.size; omega))).trans (hb3.mono (by omega)) : Below w.heap.size wr w3))
      have HX3 := Lib.hid ((HB.out.drew.later HB2.out (by show w.heap.size < wr.heap.size; omega)).later hb3 (Nat.lt_succ_self _))
      have HS3 := Lib.hid (Nat.le_trans HBB.out hb3.size)
      clear hwr hk2 hk3 hrow3 hb3 a0 a1 a2 a3 a4 a5 a6 g1 c3
      go_wp2
      go_roundw
      case rel => exact ⟨k + 1, V3, _, by omega, rfl, by go_num, K5.out, HR3.out, HS3.out, HW3.out, HX3.out⟩
      case measure => simp [intOf]; omega
    · obtain rfl : k = fs.length := by omega
      have hcl := HCL.out
      rw [List.drop_length] at hcl
      have ha := hcl.all
      rw [plf, List.append_nil] at ha
      have HA := Lib.hid (ha.trans HTOT.out)
      clear hcl ha
      go_wp2
      go_ret
      exact ⟨_, rfl, by rw [← HA.out]; exact own_base HROW.out (by omega), HW.out⟩

theorem prod_ge : ∀ (ds : List Int), (∀ d ∈ ds, 1 ≤ d ∧ d ≤ 256) → 1 ≤ prod ds
  | [], _ => Int.le_refl 1
  | d :: ds, h => by
    have h1 := (h d List.mem_cons_self).1
    have h2 := prod_ge ds (fun x hx => h x (List.mem_cons_of_mem _ hx))
    rw [prod]
    have : 1 * 1 ≤ d * prod ds := Int.mul_le_mul h1 h2 (by omega) (by omega)
    omega
theorem mul_le_of {a b c : Int} (ha : 1 ≤ a) (hb : 1 ≤ b) (h : a * b = c) : a ≤ c := by
  have : a * 1 ≤ a * b := Int.mul_le_mul_of_nonneg_left hb (by omega)
  omega

set_option maxHeartbeats 4000000 in
set_option maxRecDepth 100000 in
theorem win_arr (d : Nat) (hd : d ≤ 3) (ih : WinOk d) (t : Ty) (v : Value) (p : Int) (w : World) (hc : t.c = 6) (hz : sz (d + 1) t ≠ 0) (ht : TyAt w w.heap.size t v) (hp0 : 0 ≤ p) (hp1 : p + sz (d + 1) t ≤ 1000) :
    Calls Try.prog 36 #[v, .int .i64 p] w fun e w' => ∃ V, e = .returned V ∧ RowP w' w.heap.size V (pls t p) ∧ Below w.heap.size w w' := by
  obtain ⟨b, hbs, hb0, e, hpr, hbig, hw0, hfn, hd1, hd2, hdm⟩ := sz_arr hc hz
  have hde := dims_each _ _ hdm
  have hb4 := sz_deep (by omega) hb0
  have hgb := sz_ge d b
  have hlt4 := sz_le (d + 1) t
  rw [pls_arr hc hbs, hb4]
  have HB4 := Lib.hid hb4
  have hplen : ∀ q, ((pls b q).length : Int) ≤ sz d b := fun q => pls_len d (by omega) b q hb0
  have HPL := Lib.hid hplen
  have hpos : ∀ q, 0 < (pls b q).length := fun q => (pls_ap d (by omega) b q hb0).2
  have HPP := Lib.hid hpos
  have hal : ArrLeft (sz d b) p (sz (d + 1) t) (reps (prod t.ds).toNat (sz d b) (fun q => pls b q) p) (fun q => pls b q) (prod t.ds).toNat [] :=
    ⟨by rw [e, Int.toNat_of_nonneg (by omega)], hp0, hp1, by show (0 : Int) + _ ≤ _; omega, by rw [List.nil_append]⟩
  have hprod : prod t.ds ≤ 256 := Int.le_trans (mul_le_of hpr (show 1 ≤ sz d b by omega) (by rw [Int.mul_comm]; exact e.symm)) hlt4
  generalize (reps (prod t.ds).toNat (sz d b) (fun q => pls b q) p) = all at *
  generalize hsd : sz d b = s at *
  generalize hrt : sz (d + 1) t = r at *
  have HAL := Lib.hid hal
  have HSD := Lib.hid hsd
  clear hb4 hdm hplen hal hsd hrt hpos
  have HE := Lib.hid e
  clear e
  revert hc; revert hbs; revert hbig; revert hw0; revert hfn; revert hd1; revert hd2; revert hde; revert HAL; revert hprod; revert hpr; revert HE
  cases ht with
  | mk c wd bb fs ds bs ns fA dA bA nA fC dC bC nC fb fo db dO bbb bo nb nO fv bv hf hd' hb' hn hfz hnz hnr hcap hfA hdA hbA hnA hf0 hf1' hf2' hft hd0 hb0' hbt hn0' hn1' =>
  intro HE hpr hprod HAL hde hd2 hd1 hfn hw0 hbig hbs hc
  obtain rfl : c = 6 := hc
  obtain rfl : bb = false := hbig
  obtain rfl : bs = [b] := hbs
  obtain rfl : wd = 0 := hw0
  simp only [Ty.ds, Ty.fs, Ty.ns] at *
  clear hfz hnz hnr hfA hnA hf0 hf1' hf2' hft hn0' hn1'
  have HD0 := Lib.hid hd0
  have HDE := Lib.hid hde
  have HB0 := Lib.hid hb0'
  have HBT := Lib.hid hbt
  have IH := Lib.hid ih
  have HZB := Lib.hid hb0
  clear hd0 hde hb0' hbt ih hb0
  obtain ⟨rfl, hnb⟩ := hbA (by simp)
  obtain ⟨rfl, hnd⟩ := hdA (by omega)
  have hs1 : 1 ≤ s := by have := HZB.out; have := HSD.out; omega
  have HBN := Lib.hid (below_new w (.cells #[.int .i64 6, .int .i64 0, .bool false, .slice fA fs.length fC, .slice (some ⟨db, dO, none⟩) ds.length dC, .slice (some ⟨bbb, bo, none⟩) 1 bC, .slice nA ns.length nC] 28))
  have HBX := Lib.hid (Bx.new w 28 #[.int .i64 6, .int .i64 0, .bool false, .slice fA fs.length fC, .slice (some ⟨db, dO, none⟩) ds.length dC, .slice (some ⟨bbb, bo, none⟩) 1 bC, .slice nA ns.length nC])
  go_enter Try.func36, Try.ntmps36
  go_wp2
  go_loop [7, 8] (fun x i => ∃ (k : Nat) (n : Int), k ≤ ds.length ∧ x = .int .i64 n ∧ i = .int .i64 k ∧ 1 ≤ n ∧ n * prod (ds.drop k) = prod ds) (fun _ i => ds.length - (intOf i).toNat)
  case atStart => exact ⟨0, 1, Nat.zero_le _, rfl, rfl, by omega, by rw [List.drop_zero]; omega⟩
  case round =>
    obtain ⟨k, n, hk, rfl, rfl, hn1, hnp⟩ := hrel
    have HNP := Lib.hid hnp
    clear hnp
    by_cases hlt3 : k < ds.length
    · have cd := (HBN.out.cell (p := ⟨db, dO + k, none⟩) hnd).trans (HD0.out k hlt3)
      have hda := (HDE.out ds[k] (List.getElem_mem hlt3)).1
      have hdb := (HDE.out ds[k] (List.getElem_mem hlt3)).2
      have hnp := HNP.out
      rw [List.drop_eq_getElem_cons hlt3, prod, ← Int.mul_assoc] at hnp
      have hp1' := prod_ge (ds.drop (k + 1)) (fun x hx => HDE.out x (List.mem_of_mem_drop hx))
      have hm0 : 1 * 1 ≤ n * ds[k] := Int.mul_le_mul hn1 hda (by omega) (by omega)
      have hm1 : n * ds[k] ≤ 256 := Int.le_trans (mul_le_of (by omega) hp1' hnp) hprod
      have HNP2 := Lib.hid hnp
      clear hnp HNP
      generalize ds[k] = dv at *
      have hm2 : 0 ≤ n * dv := by omega
      go_wp2
      exact ⟨⟨k + 1, n * dv, by omega, rfl, by go_num, by omega, HNP2.out⟩, by simp [intOf]; omega⟩
    · obtain rfl : k = ds.length := by omega
      have hnp := HNP.out
      rw [List.drop_length, prod, Int.mul_one] at hnp
      subst hnp
      clear HNP
      have hc := fun o : Nat => HBN.out.cell (p := ⟨bbb, o, none⟩) hnb
      have a0 := (hc bo).trans (HB0.out 0 (by simp) 0 (by omega))
      have a1 := (hc (bo + 1)).trans (HB0.out 0 (by simp) 1 (by omega))
      have a2 := (hc (bo + 2)).trans (HB0.out 0 (by simp) 2 (by omega))
      have a3 := (hc (bo + 3)).trans (HB0.out 0 (by simp) 3 (by omega))
      have a4 := (hc (bo + 4)).trans (HB0.out 0 (by simp) 4 (by omega))
      have a5 := (hc (bo + 5)).trans (HB0.out 0 (by simp) 5 (by omega))
      have a6 := (hc (bo + 6)).trans (HB0.out 0 (by simp) 6 (by omega))
      clear hc
      have hbt1 := ((HBT.out 0 (by simp)).later HBN.out).up HBN.out.size
      have HBT1 := Lib.hid hbt1
      clear hbt1
      go_wp2_with (go_at_call 34; refine (sized_any 4 (by omega) b _ _ ?_).mono ?_)
      · have h := HBT1.out; rw [size_alloc] at h; exact h
      rintro _ w2 he hb2
      have hb2 := below_succ hb2
      rw [HB4.out] at he
      subst he
      have HW2 := Lib.hid (below_more HBN.out hb2)
      have HX2 := Lib.hid (HBX.out.later hb2 (by rw [size_alloc]; exact Nat.lt_succ_self _))
      have HS2 := Lib.hid (show w.heap.size + 1 ≤ w2.heap.size by have := hb2.size; rwa [size_alloc] at this)
      obtain ⟨M, hM⟩ : ∃ M : Nat, prod ds = M := ⟨(prod ds).toNat, by omega⟩
      have HAL2 := HAL
      rw [hM, Int.toNat_natCast] at HAL2
      have hr0 : r = s * (M : Int) := by rw [← hM]; exact HE.out
      have HR0 := Lib.hid hr0
      rw [hM]
      have hM2 : M ≤ 256 := by omega
      clear hb2 HBX HBN HBT1 a0 a1 a2 a3 a4 a5 a6 HAL HE hr0 hpr hprod hn1 hM
      go_wp2
      go_loopw [5, 10] (fun x i wr => ∃ (k m : Nat) (V : Value) (ys : List Pl), k + m = M ∧ x = V ∧ i = .int .i64 k ∧ ArrLeft s (p + (k : Int) * s) (s * m) all (fun q => pls b q) m ys ∧ RowP wr (w.heap.size + 1) V ys ∧ w.heap.size + 1 ≤ wr.heap.size ∧ Below w.heap.size w wr ∧
          Bx wr w.heap.size 28 #[.int .i64 6, .int .i64 0, .bool false, .slice fA fs.length fC, .slice (some ⟨db, dO, none⟩) ds.length dC, .slice (some ⟨bbb, bo, none⟩) 1 bC, .slice nA ns.length nC]) (fun _ i _ => M - (intOf i).toNat)
      case atStart => exact ⟨0, M, _, [], by omega, rfl, rfl, by have h := HAL2.out; rw [HR0.out] at h; rw [show p + ((0 : Nat) : Int) * s = p by omega]; exact h, World.ownsRow_nil _ _ _ _, HS2.out, HW2.out, HX2.out⟩
      case round =>
        clear HW2 HX2 HS2 HAL2 HR0
        obtain ⟨k, m, V, ys, hkm, rfl, rfl, hal, hrow, hsz, hW, hB⟩ := hrel
        have c5 := hB.cell 5
        have HROW := Lib.hid hrow
        have HSZ := Lib.hid hsz
        have HW := Lib.hid hW
        have HB := Lib.hid hB
        have HALk := Lib.hid hal
        clear hrow hW hB hal
        by_cases hlt4 : k < M
        · obtain ⟨m, rfl⟩ : ∃ m', m = m' + 1 := ⟨m - 1, by omega⟩
          have hal := HALk.out
          obtain ⟨k1, k2⟩ := hal.step hs1 (HPL.out _)
          have hq0 := hal.q0
          have hq1 := hal.q1
          have hl1 := hal.len
          have hks0 : 0 ≤ (k : Int) * s := Int.mul_nonneg (by omega) (by omega)
          have hks : p + (k : Int) * s + s = p + ((k + 1 : Nat) : Int) * s := by rw [Int.natCast_add, Int.add_mul]; omega
          have hsm : s * ((m + 1 : Nat) : Int) - s = s * (m : Int) := by rw [Int.natCast_add, Int.mul_add]; omega
          rw [hks, hsm] at k2
          have K2 := Lib.hid k2
          have hc := fun o : Nat => HW.out.cell (p := ⟨bbb, o, none⟩) hnb
          have a0 := (hc bo).trans (HB0.out 0 (by simp) 0 (by omega))
          have a1 := (hc (bo + 1)).trans (HB0.out 0 (by simp) 1 (by omega))
          have a2 := (hc (bo + 2)).trans (HB0.out 0 (by simp) 2 (by omega))
          have a3 := (hc (bo + 3)).trans (HB0.out 0 (by simp) 3 (by omega))
          have a4 := (hc (bo + 4)).trans (HB0.out 0 (by simp) 4 (by omega))
          have a5 := (hc (bo + 5)).trans (HB0.out 0 (by simp) 5 (by omega))
          have a6 := (hc (bo + 6)).trans (HB0.out 0 (by simp) 6 (by omega))
          have HBTd := Lib.hid (((HBT.out 0 (by simp)).later HW.out).up HW.out.size)
          have hpn := HPL.out (p + (k : Int) * s)
          have HPN := Lib.hid (HPP.out (p + (k : Int) * s))
          have HLL := Lib.hid (show ys.length + (pls b (p + (k : Int) * s)).length ≤ 100000 by omega)
          have hq2 : p + (k : Int) * s ≤ 1000 := by omega
          have hq3 : p + (k : Int) * s + s ≤ 1000 := by omega
          have HQ0 := Lib.hid hq0
          have HQ1 := Lib.hid (show p + (k : Int) * s + sz d b ≤ 1000 by rw [HSD.out]; exact hq3)
          have hks1 : (k : Int) * s ≤ 1000 := by omega
          have hp0' : 0 ≤ p := hp0
          clear hal k2 HALk hc hks hsm hpn
          go_wp2_with (fail)
          have hzb : sz d b ≠ 0 := by rw [HSD.out]; exact HZB.out
          refine (IH.out b _ (p + (k : Int) * s) wr hzb HBTd.out HQ0.out HQ1.out).mono ?_
          rintro _ w4 ⟨V2, rfl, hrow2, hb2⟩
          have HR2 := Lib.hid (HROW.out.below hb2)
          have HRB := Lib.hid hrow2
          have HBB := Lib.hid (show w.heap.size + 1 ≤ w4.heap.size from Nat.le_trans HSZ.out hb2.size)
          have HW4 := Lib.hid (below_more HW.out hb2)
          have HX4 := Lib.hid (HB.out.later hb2 HB.out.lt)
          clear hzb hrow2 hb2 a0 a1 a2 a3 a4 a5 a6 c5 HB HW HROW
          go_wp2_with (at_builtin; refine wp_rowp rfl (.tmp 74) (.tmp 84) rfl (w.heap.size + 1) _ _ V2 ys (pls b (p + (k : Int) * s)) rfl rfl HR2.out HRB.out HPN.out HLL.out HBB.out ?_; intro V3 w5 hrow3 hb3; refine Hid.out ?_)
          have HR3 := Lib.hid hrow3
          have HW5 := Lib.hid (HW4.out.trans (hb3.mono (by omega)))
          have HX5 := Lib.hid (HX4.out.later hb3 (Nat.lt_succ_self _))
          have HS5 := Lib.hid (Nat.le_trans HBB.out hb3.size)
          clear hrow3 hb3 HR2 HRB HX4 HW4 HBB
          refine go_on ?_
          go_wp2
          go_roundw
          case rel => exact ⟨k + 1, m, V3, _, by omega, rfl, by go_num, K2.out, HR3.out, HS5.out, HW5.out, HX5.out⟩
          case measure => simp [intOf]; omega
        · obtain rfl : k = M := by omega
          obtain rfl : m = 0 := by omega
          have ha := HALk.out.all
          rw [reps, List.append_nil] at ha
          have HA := Lib.hid ha
          clear ha
          go_wp2
          go_ret
          exact ⟨_, rfl, by rw [← HA.out]; exact own_base HROW.out (by omega), HW.out⟩
end Go.Proofs.Ytbdhihgokkcmfaa.Ty9
