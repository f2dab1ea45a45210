/- compound and enum. -/
import Derived.Test.YtbdhihgokkcmfaaPz
import Derived.Lib.SlicesS
import Derived.Test.YtbdhihgokkcmfaaSh
namespace Go.Proofs.Ytbdhihgokkcmfaa.Ty9
set_option linter.unusedVariables false
set_option linter.unusedSimpArgs false
open Go.RowKit Wd

/-- A field's nine cells, plainly. -/
structure FCl where
  name : ByteArray
  pos : Int
  c : Int
  wd : Int
  big : Bool
  fA : Option Addr
  fn : Nat
  fC : Nat
  dA : Option Addr
  dn : Nat
  dC : Nat
  bA : Option Addr
  bn : Nat
  bC : Nat
  nA : Option Addr
  nn : Nat
  nC : Nat
deriving Inhabited
def FCl.enc (x : FCl) : List Value := [.string x.name, .int .i64 x.pos, .int .i64 x.c, .int .i64 x.wd, .bool x.big, .slice x.fA x.fn x.fC, .slice x.dA x.dn x.dC, .slice x.bA x.bn x.bC, .slice x.nA x.nn x.nC]

set_option maxHeartbeats 1000000 in
theorem predF (nm : ByteArray) (B : Nat) (w : World) (hB : B < w.heap.size) (hcell : w.cell? ⟨B, 0, none⟩ = some (.string nm)) :
    PredBelow Try.prog 69 #[.pointer (some ⟨B, 0, none⟩)] (fun x : FCl => .agg x.enc.toArray) (fun x => x.name.toList == nm.toList) w := fun W x hb => by
  have hc : W.cell? ⟨B, 0, none⟩ = some (.string nm) := (hb.cell (p := ⟨B, 0, none⟩) hB).trans hcell
  have hBW : B < W.heap.size := Nat.lt_of_lt_of_le hB hb.size
  have hne : B ≠ W.heap.size := by omega
  obtain ⟨name, pos, c, wd, big, fA, fn, fC, dA, dn, dC, bA, bn, bC, nA, nn, nC⟩ := x
  show Calls Try.prog 69 #[.agg #[.string name, .int .i64 pos, .int .i64 c, .int .i64 wd, .bool big, .slice fA fn fC, .slice dA dn dC, .slice bA bn bC, .slice nA nn nC], .pointer (some ⟨B, 0, none⟩)] W _
  go_enter Try.func69, Try.ntmps69
  go_wp2
  go_ret
  exact ⟨rfl, hb.alloc hb.size _⟩

theorem containsF (b off n c : Nat) (zs : List FCl) (nm : ByteArray) (B : Nat) (w : World) (hB : B < w.heap.size) (hcell : w.cell? ⟨B, 0, none⟩ = some (.string nm))
    (hz : n ≤ zs.length) (hbig : n ≤ 9223372036854775807) (hb : b < w.heap.size)
    (hc : ∀ j, j < zs.length → ∀ i v, zs[j]!.enc[i]? = some v → w.cell? ⟨b, off + j * 9 + i, none⟩ = some v) :
    Calls Try.prog 68 #[.slice (some ⟨b, off, none⟩) n c, .func (.func 69) #[] #[.pointer (some ⟨B, 0, none⟩)]] w
      fun e w' => e = .returned (.bool ((zs.take n).any fun x => x.name.toList == nm.toList)) ∧ Below w.heap.size w w' :=
  AnyQ.slices_ContainsFunc Sh.layCF 9 Try.isAgg66 Try.sizeOf66 FCl.enc (fun _ => rfl) (fun x => x.name.toList == nm.toList) 69 #[.pointer (some ⟨B, 0, none⟩)]
    (enters_of Try.func69 (by kernel_rfl) rfl) b off n c zs w (predF nm B w hB hcell) hz hbig hb hc

/-- A member's two cells. -/
def encM (x : ByteArray × Int) : List Value := [.string x.1, .int .i64 x.2]

set_option maxHeartbeats 1000000 in
theorem predM (m : ByteArray × Int) (B : Nat) (w : World) (hB : B < w.heap.size) (hcell : w.cell? ⟨B, 0, none⟩ = some (.string m.1)) (hcell1 : w.cell? ⟨B, 1, none⟩ = some (.int .i64 m.2)) :
    PredBelow Try.prog 72 #[.pointer (some ⟨B, 0, none⟩)] (fun x : ByteArray × Int => .agg (encM x).toArray) (fun x => x.1.toList == m.1.toList || x.2 == m.2) w := fun W x hb => by
  have hc : W.cell? ⟨B, 0, none⟩ = some (.string m.1) := (hb.cell (p := ⟨B, 0, none⟩) hB).trans hcell
  have hc1 : W.cell? ⟨B, 1, none⟩ = some (.int .i64 m.2) := (hb.cell (p := ⟨B, 1, none⟩) hB).trans hcell1
  have hBW : B < W.heap.size := Nat.lt_of_lt_of_le hB hb.size
  have hne : B ≠ W.heap.size := by omega
  obtain ⟨name, val⟩ := x
  obtain ⟨mn, mv⟩ := m
  show Calls Try.prog 72 #[.agg #[.string name, .int .i64 val], .pointer (some ⟨B, 0, none⟩)] W _
  have HBA := Lib.hid (hb.alloc hb.size (.cells #[.string name, .int .i64 val] 68))
  go_enter Try.func72, Try.ntmps72
  go_wp2
  all_goals
    go_ret
    exact ⟨by first | rfl | simp_all, HBA.out⟩

theorem containsM (b off n c : Nat) (zs : List (ByteArray × Int)) (m : ByteArray × Int) (B : Nat) (w : World) (hB : B < w.heap.size) (hcell : w.cell? ⟨B, 0, none⟩ = some (.string m.1)) (hcell1 : w.cell? ⟨B, 1, none⟩ = some (.int .i64 m.2))
    (hz : n ≤ zs.length) (hbig : n ≤ 9223372036854775807) (hb : b < w.heap.size)
    (hc : ∀ j, j < zs.length → ∀ i v, (encM zs[j]!)[i]? = some v → w.cell? ⟨b, off + j * 2 + i, none⟩ = some v) :
    Calls Try.prog 71 #[.slice (some ⟨b, off, none⟩) n c, .func (.func 72) #[] #[.pointer (some ⟨B, 0, none⟩)]] w
      fun e w' => e = .returned (.bool ((zs.take n).any fun x => x.1.toList == m.1.toList || x.2 == m.2)) ∧ Below w.heap.size w w' :=
  AnyQ.slices_ContainsFunc Sh.layCM 2 Try.isAgg68 Try.sizeOf68 encM (fun _ => rfl) (fun x => x.1.toList == m.1.toList || x.2 == m.2) 72 #[.pointer (some ⟨B, 0, none⟩)]
    (enters_of Try.func72 (by kernel_rfl) rfl) b off n c zs w (predM m B w hB hcell hcell1) hz hbig hb hc

theorem zs_of {w : World} {B fb fo : Nat} {fs : List Fd} {fv : Nat → Nat → Value}
    (hf0 : ∀ i (h : i < fs.length), w.cell? ⟨fb, fo + i * 9, none⟩ = some (.string fs[i].name))
    (hf1 : ∀ i (h : i < fs.length), w.cell? ⟨fb, fo + i * 9 + 1, none⟩ = some (.int .i64 fs[i].pos))
    (hf2 : ∀ i, i < fs.length → ∀ k, k < 7 → w.cell? ⟨fb, fo + i * 9 + 2 + k, none⟩ = some (fv i k))
    (hft : ∀ i (h : i < fs.length), TyAt w B fs[i].ty (.agg #[fv i 0, fv i 1, fv i 2, fv i 3, fv i 4, fv i 5, fv i 6])) :
    ∃ zs : List FCl, zs.length = fs.length ∧ (∀ j (h : j < fs.length), zs[j]!.name = fs[j].name) ∧
      ∀ j, j < zs.length → ∀ i v, zs[j]!.enc[i]? = some v → w.cell? ⟨fb, fo + j * 9 + i, none⟩ = some v := by
  have each : ∀ j : Fin fs.length, ∃ x : FCl, x.name = fs[j.1].name ∧ ∀ i v, x.enc[i]? = some v → w.cell? ⟨fb, fo + j.1 * 9 + i, none⟩ = some v := by
    intro ⟨j, hj⟩
    obtain ⟨fA', dA', bA', nA', fC', dC', bC', nC', e0, e1, e2, e3, e4, e5, e6⟩ := (hft j hj).cells
    refine ⟨⟨fs[j].name, fs[j].pos, fs[j].ty.c, fs[j].ty.w, fs[j].ty.big, fA', fs[j].ty.fs.length, fC', dA', fs[j].ty.ds.length, dC', bA', fs[j].ty.bs.length, bC', nA', fs[j].ty.ns.length, nC'⟩, rfl, fun i v hv => ?_⟩
    match i, hv with
    | 0, hv => rw [← Option.some.inj hv]; exact hf0 j hj
    | 1, hv => rw [← Option.some.inj hv]; exact hf1 j hj
    | 2, hv => rw [← Option.some.inj hv, ← e0]; exact hf2 j hj 0 (by omega)
    | 3, hv => rw [← Option.some.inj hv, ← e1]; exact hf2 j hj 1 (by omega)
    | 4, hv => rw [← Option.some.inj hv, ← e2]; exact hf2 j hj 2 (by omega)
    | 5, hv => rw [← Option.some.inj hv, ← e3]; exact hf2 j hj 3 (by omega)
    | 6, hv => rw [← Option.some.inj hv, ← e4]; exact hf2 j hj 4 (by omega)
    | 7, hv => rw [← Option.some.inj hv, ← e5]; exact hf2 j hj 5 (by omega)
    | 8, hv => rw [← Option.some.inj hv, ← e6]; exact hf2 j hj 6 (by omega)
    | i + 9, hv => cases hv
  have hz : ∀ j (h : j < fs.length), (List.ofFn fun j : Fin fs.length => Classical.choose (each j))[j]! = Classical.choose (each ⟨j, h⟩) := by
    intro j h
    rw [List.getElem!_eq_getElem?_getD, List.getElem?_ofFn, dif_pos h]
    rfl
  refine ⟨List.ofFn fun j : Fin fs.length => Classical.choose (each j), List.length_ofFn, fun j h => ?_, fun j h => ?_⟩
  · rw [hz j h]; exact (Classical.choose_spec (each ⟨j, h⟩)).1
  · rw [List.length_ofFn] at h
    rw [hz j h]; exact (Classical.choose_spec (each ⟨j, h⟩)).2
theorem any_names {fs : List Fd} {zs : List FCl} (hl : zs.length = fs.length) (hn : ∀ j (h : j < fs.length), zs[j]!.name = fs[j].name) (k : Nat) (hk : k ≤ fs.length) (nm : ByteArray) :
    ((zs.take k).any fun x => x.name.toList == nm.toList) = true ↔ nm ∈ (fs.take k).map Fd.name := by
  rw [List.any_eq_true, List.mem_map]
  constructor
  · rintro ⟨x, hx, he⟩
    obtain ⟨j, hj, rfl⟩ := List.mem_take_iff_getElem.mp hx
    have hj2 : j < fs.length := by omega
    refine ⟨fs[j], List.mem_take_iff_getElem.mpr ⟨j, by omega, rfl⟩, ?_⟩
    have := hn j hj2
    rw [getElem!_pos zs j (by omega)] at this
    rw [← this]
    exact (Go.Lib.bytes_beq_iff _ _).mp he
  · rintro ⟨x, hx, he⟩
    obtain ⟨j, hj, rfl⟩ := List.mem_take_iff_getElem.mp hx
    have hj2 : j < fs.length := by omega
    have := hn j hj2
    rw [getElem!_pos zs j (by omega)] at this
    refine ⟨zs[j]'(by omega), List.mem_take_iff_getElem.mpr ⟨j, by omega, rfl⟩, ?_⟩
    exact (Go.Lib.bytes_beq_iff _ _).mpr (this.trans he)

set_option maxHeartbeats 2000000 in
set_option maxRecDepth 100000 in
theorem pcompound_any (d : Nat) (hd4 : d ≤ 1000) (ih : PSizeOk d) (t : Ty) (v : Value) (w : World) (ht : TyAt w w.heap.size t v) (hbig : t.big = false) :
    Calls Try.prog 49 #[v, .int .i64 (d + 1 : Nat)] w fun e w' => e = .returned (.int .i64 (compS (sz d) t)) ∧ Below w.heap.size w w' := by
  have HTA := Lib.hid ht
  revert hbig HTA
  cases ht with
  | mk c wd bb fs ds bs ns fA dA bA nA fC dC bC nC fb fo db dO bbb bo nb nO fv bv hf hd hb hn hfz hnz hnr hcap hfA hdA hbA hnA hf0 hf1 hf2 hft hd0 hb0 hbt hn0' hn1' =>
  intro hbig HTA
  obtain rfl : bb = false := hbig
  clear hnz hnr hdA hbA hnA hd0 hb0 hbt hn0' hn1'
  have HZS := Lib.hid (zs_of hf0 hf1 hf2 hft)
  have HF0 := Lib.hid hf0
  have HF1 := Lib.hid hf1
  have HF2 := Lib.hid hf2
  have HFT := Lib.hid hft
  have IH := Lib.hid ih
  clear hf0 hf1 hf2 hft ih
  have HBX := Lib.hid (Bx.new w 28 #[.int .i64 c, .int .i64 wd, .bool false, .slice fA fs.length fC, .slice dA ds.length dC, .slice bA bs.length bC, .slice nA ns.length nC])
  have HBN := Lib.hid (below_new w (.cells #[.int .i64 c, .int .i64 wd, .bool false, .slice fA fs.length fC, .slice dA ds.length dC, .slice bA bs.length bC, .slice nA ns.length nC] 28))
  generalize hR : compS (sz d) (.mk c wd false fs ds bs ns) = R
  have HR := Lib.hid hR
  clear hR
  go_enter Try.func49, Try.ntmps49
  go_wp2_with (go_at_call 48; refine (bare_any (.mk c wd false fs ds bs ns) _ _ _ _ _ _ ?_).mono ?_)
  · exact (HTA.out.later HBN.out).up HBN.out.size
  rintro _ w2 ⟨rfl, hb2⟩
  have HW2 := Lib.hid (below_more HBN.out hb2)
  have HBX2 := Lib.hid (HBX.out.later hb2 (by simp))
  clear hb2 HBX HBN HTA
  have c1 := HBX2.out.cell 1
  have c3 := HBX2.out.cell 3
  by_cases hbad : ds.length + bs.length + ns.length ≠ 0 ∨ wd < 1 ∨ 256 < wd ∨ fs.length = 0 ∨ 16 < fs.length
  · have hz : compS (sz d) (.mk c wd false fs ds bs ns) = 0 := by unfold compS; exact if_pos (.inr hbad)
    have HZ := Lib.hid (hz.symm.trans HR.out)
    clear hz HR IH HF0 HF1 HF2 HFT HZS hfz
    by_cases hbr : ds.length = 0 ∧ bs.length = 0 ∧ ns.length = 0
    · rw [show (decide ((Ty.mk c wd false fs ds bs ns).ds.length = 0)) = true from decide_eq_true hbr.1, show (decide ((Ty.mk c wd false fs ds bs ns).bs.length = 0)) = true from decide_eq_true hbr.2.1, show (decide ((Ty.mk c wd false fs ds bs ns).ns.length = 0)) = true from decide_eq_true hbr.2.2]
      go_wp2
      all_goals first
        | (go_ret
           exact ⟨by first | rfl | (rw [← HZ.out]; rfl), HW2.out⟩)
        | (exfalso
           rcases hbad with h | h | h | h | h <;> first | omega | (simp_all; done) | (simp_all; omega))
    · have hff : ((true || decide ((Ty.mk c wd false fs ds bs ns).fs.length = 0)) && (false || decide ((Ty.mk c wd false fs ds bs ns).ds.length = 0)) && (false || decide ((Ty.mk c wd false fs ds bs ns).bs.length = 0)) && (false || decide ((Ty.mk c wd false fs ds bs ns).ns.length = 0))) = false := by
        have hor : ds.length ≠ 0 ∨ bs.length ≠ 0 ∨ ns.length ≠ 0 := by omega
        rcases hor with h | h | h
        · rw [show (decide ((Ty.mk c wd false fs ds bs ns).ds.length = 0)) = false from decide_eq_false h]; rfl
        · rw [show (decide ((Ty.mk c wd false fs ds bs ns).bs.length = 0)) = false from decide_eq_false h]
          cases (decide ((Ty.mk c wd false fs ds bs ns).ds.length = 0)) <;> rfl
        · rw [show (decide ((Ty.mk c wd false fs ds bs ns).ns.length = 0)) = false from decide_eq_false h]
          cases (decide ((Ty.mk c wd false fs ds bs ns).ds.length = 0)) <;> cases (decide ((Ty.mk c wd false fs ds bs ns).bs.length = 0)) <;> rfl
      rw [hff]
      go_wp2
      all_goals
        go_ret
        exact ⟨by first | rfl | (rw [← HZ.out]; rfl), HW2.out⟩
  · have hz : compS (sz d) (.mk c wd false fs ds bs ns) = flds (sz d) wd fs [] 0 := by
      unfold compS
      exact if_neg (fun h => by
        rcases h with h | h
        · cases h
        · exact hbad h)
    have HZ := Lib.hid (hz.symm.trans HR.out)
    clear hz HR
    have hd1 : 1 ≤ fs.length := by omega
    have hd2 : fs.length ≤ 16 := by omega
    have hw1 : 1 ≤ wd := by omega
    have hw2 : wd ≤ 256 := by omega
    have hdz : ((fs.length : Int) == 0) = false := by rw [beq_eq_false_iff_ne]; omega
    rw [show (decide ((Ty.mk c wd false fs ds bs ns).ds.length = 0)) = true from decide_eq_true (show ds.length = 0 by omega), show (decide ((Ty.mk c wd false fs ds bs ns).bs.length = 0)) = true from decide_eq_true (show bs.length = 0 by omega), show (decide ((Ty.mk c wd false fs ds bs ns).ns.length = 0)) = true from decide_eq_true (show ns.length = 0 by omega)]
    clear hbad
    obtain ⟨rfl, hnf⟩ := hfA (by omega)
    go_wp2
    go_loopw [5, 38] (fun x i wr => ∃ (k : Nat) (e : Int), k ≤ fs.length ∧ x = .int .i64 e ∧ i = .int .i64 k ∧ 0 ≤ e ∧ e ≤ 256 ∧ flds (sz d) wd (fs.drop k) ((fs.take k).map Fd.name) e = R ∧ Below w.heap.size w wr ∧
        Bx wr w.heap.size 28 #[.int .i64 c, .int .i64 wd, .bool false, .slice (some ⟨fb, fo, none⟩) fs.length fC, .slice dA ds.length dC, .slice bA bs.length bC, .slice nA ns.length nC]) (fun _ i _ => fs.length - (intOf i).toNat)
    case atStart => exact ⟨0, 0, Nat.zero_le _, rfl, rfl, Int.le_refl _, by omega, HZ.out, HW2.out, HBX2.out⟩
    case round =>
      clear HW2 HBX2 c1 c3
      obtain ⟨k, e, hk, rfl, rfl, he0, he1, hfl, hW, hB⟩ := hrel
      have c3 := hB.cell 3
      have hlt2 := hB.lt
      have HW := Lib.hid hW
      have HB := Lib.hid hB
      have HFL := Lib.hid hfl
      clear hW hB hfl
      by_cases hlt : k < fs.length
      · have hc := fun o : Nat => HW.out.cell (p := ⟨fb, o, none⟩) hnf
        have g0 := (hc (fo + k * 9)).trans (HF0.out k hlt)
        have g1 := (hc (fo + k * 9 + 1)).trans (HF1.out k hlt)
        have a0 : wr.cell? ⟨fb, fo + k * 9 + 2, none⟩ = some (fv k 0) := (hc _).trans (HF2.out k hlt 0 (by omega))
        have a1 := (hc (fo + k * 9 + 2 + 1)).trans (HF2.out k hlt 1 (by omega))
        have a2 := (hc (fo + k * 9 + 2 + 2)).trans (HF2.out k hlt 2 (by omega))
        have a3 := (hc (fo + k * 9 + 2 + 3)).trans (HF2.out k hlt 3 (by omega))
        have a4 := (hc (fo + k * 9 + 2 + 4)).trans (HF2.out k hlt 4 (by omega))
        have a5 := (hc (fo + k * 9 + 2 + 5)).trans (HF2.out k hlt 5 (by omega))
        have a6 := (hc (fo + k * 9 + 2 + 6)).trans (HF2.out k hlt 6 (by omega))
        clear hc
        have hbt := HFT.out k hlt
        obtain ⟨fA', dA', bA', nA', fC', dC', bC', nC', e0, e1, e2, e3, e4, e5, e6⟩ := hbt.cells
        have hln := hbt.lens
        rw [e0] at a0 hbt
        rw [e1] at a1 hbt
        rw [e2] at a2 hbt
        rw [e3] at a3 hbt
        rw [e4] at a4 hbt
        rw [e5] at a5 hbt
        rw [e6] at a6 hbt
        have HBT1 := Lib.hid hbt
        clear e0 e1 e2 e3 e4 e5 e6 hbt
        have hmz := hfz fs[k] (List.getElem_mem hlt)
        have hfc := HFL.out
        rw [List.drop_eq_getElem_cons hlt, flds] at hfc
        have hsl := sz_le d fs[k].ty
        have hsg := sz_ge d fs[k].ty
        generalize hnn : sz d fs[k].ty = n0 at *
        have HNN := Lib.hid hnn
        have HFC := Lib.hid hfc
        have HTK := Lib.hid (List.take_succ_eq_append_getElem hlt)
        have HWm := Lib.hid (HW.out.alloc HW.out.size (.cells (#[.string fs[k].name, .int .i64 fs[k].pos, .int .i64 fs[k].ty.c, .int .i64 fs[k].ty.w, .bool fs[k].ty.big, .slice fA' fs[k].ty.fs.length fC', .slice dA' fs[k].ty.ds.length dC', .slice bA' fs[k].ty.bs.length bC', .slice nA' fs[k].ty.ns.length nC']) 66))
        have HBm := Lib.hid (Bx.new wr 66 #[.string fs[k].name, .int .i64 fs[k].pos, .int .i64 fs[k].ty.c, .int .i64 fs[k].ty.w, .bool fs[k].ty.big, .slice fA' fs[k].ty.fs.length fC', .slice dA' fs[k].ty.ds.length dC', .slice bA' fs[k].ty.bs.length bC', .slice nA' fs[k].ty.ns.length nC'])
        have HWn := Lib.hid (Below.alloc (Below.refl wr.heap.size wr) (Nat.le_refl _) (.cells (#[.string fs[k].name, .int .i64 fs[k].pos, .int .i64 fs[k].ty.c, .int .i64 fs[k].ty.w, .bool fs[k].ty.big, .slice fA' fs[k].ty.fs.length fC', .slice dA' fs[k].ty.ds.length dC', .slice bA' fs[k].ty.bs.length bC', .slice nA' fs[k].ty.ns.length nC']) 66))
        clear hfc hnn HFL
        go_wp2_with (go_at_call 33; refine (IH.out fs[k].ty _ _ ?_).mono ?_)
        · exact (HBT1.out.later HWm.out).up HWm.out.size
        rintro _ w3 ⟨he, hb3⟩
        rw [HNN.out] at he
        subst he
        have hs4 : (wr.alloc (.cells (#[.string fs[k].name, .int .i64 fs[k].pos, .int .i64 fs[k].ty.c, .int .i64 fs[k].ty.w, .bool fs[k].ty.big, .slice fA' fs[k].ty.fs.length fC', .slice dA' fs[k].ty.ds.length dC', .slice bA' fs[k].ty.bs.length bC', .slice nA' fs[k].ty.ns.length nC']) 66)).heap.size = wr.heap.size + 1 := by simp
        rw [hs4] at hb3
        have HW3 := Lib.hid (below_then HWm.out HWm.out.size (by rw [hs4]; exact hb3))
        have HB3 := Lib.hid ((HB.out.later HWn.out (by omega)).later hb3 (by omega))
        have HM3 := Lib.hid (HBm.out.later hb3 (by omega))
        have d3 := HB3.out.cell 3
        have d1 := HB3.out.cell 1
        have m0 := HM3.out.cell 0
        have m1 := HM3.out.cell 1
        clear hs4 hb3 HWm HBm HWn HB a0 a1 a2 a3 a4 a5 a6 g0 g1 c3 HBT1
        obtain ⟨zs, hzl, hzn, hzc⟩ := HZS.out
        have hany := any_names hzl hzn k (by omega) fs[k].name
        generalize hg : ((zs.take k).any fun x => x.name.toList == fs[k].name.toList) = tw at *
        have HG := Lib.hid hg
        have HAN := Lib.hid hany
        have HCT := Lib.hid (containsF fb fo k fC zs fs[k].name wr.heap.size w3 HM3.out.lt m0 (by omega) (by omega) (Nat.lt_of_lt_of_le hnf HW3.out.size) (fun j hj i v hv => (HW3.out.cell (p := ⟨fb, fo + j * 9 + i, none⟩) hnf).trans (hzc j hj i v hv)))
        have hkc : k ≤ fC := by omega
        clear hg hany hzl hzn hzc
        go_wp2_with (go_at_call 68; refine HCT.out.mono ?_)
        rintro _ w4 ⟨he, hb4⟩
        rw [HG.out] at he
        subst he
        have HW4 := Lib.hid (below_then HW3.out HW3.out.size hb4)
        have HB4 := Lib.hid (HB3.out.later hb4 HB3.out.lt)
        have HM4 := Lib.hid (HM3.out.later hb4 HM3.out.lt)
        clear hb4 HCT HG d3 d1 m0 m1 HB3 HM3 HW3
        have d1 := HB4.out.cell 1
        have m0 := HM4.out.cell 0
        have m1 := HM4.out.cell 1
        by_cases hz : n0 = 0
        · have hR : 0 = R := by rw [← HFC.out, if_pos (.inl hz)]
          have HR := Lib.hid hR
          clear hR
          subst hz
          go_wp2
          go_ret
          exact ⟨by rw [← HR.out]; rfl, HW4.out⟩
        have hzb : (n0 == 0) = false := beq_eq_false_iff_ne.mpr hz
        by_cases htw : tw = true
        · have hR : 0 = R := by rw [← HFC.out, if_pos (.inr (.inr (.inr (.inr (HAN.out.mp htw)))))]
          have HR := Lib.hid hR
          clear hR
          subst htw
          go_wp2
          go_ret
          exact ⟨by rw [← HR.out]; rfl, HW4.out⟩
        obtain rfl : tw = false := by cases tw <;> simp_all
        have hno : fs[k].name ∉ (fs.take k).map Fd.name := fun h => by have := HAN.out.mpr h; cases this
        have HNO := Lib.hid hno
        clear hno htw
        by_cases hnm : nameB fs[k].name = true
        rotate_left
        · have hR : 0 = R := by rw [← HFC.out, if_pos (.inr (.inl (by rwa [Bool.not_eq_true] at hnm)))]
          have HR := Lib.hid hR
          clear hR
          rw [Bool.not_eq_true] at hnm
          go_wp2_with (go_at_call 70; refine (name_any _ _ ?_).mono ?_)
          · exact hmz
          rintro _ w5 ⟨rfl, ⟨⟨q, rfl⟩⟩⟩
          rw [hnm]
          go_wp2
          go_ret
          exact ⟨by rw [← HR.out]; rfl, below_drewN HW4.out q⟩
        generalize hpp : fs[k].pos = p at *
        have HPP := Lib.hid hpp
        clear hpp
        by_cases hbd : p < e ∨ wd < p + n0
        · have hR : 0 = R := by rw [← HFC.out, if_pos (by omega)]
          have HR := Lib.hid hR
          clear hR
          go_wp2_with (go_at_call 70; refine (name_any _ _ ?_).mono ?_)
          · exact hmz
          rintro _ w5 ⟨rfl, ⟨⟨q, rfl⟩⟩⟩
          rw [hnm]
          by_cases q1 : p < e
          · go_wp2
            go_ret
            exact ⟨by rw [← HR.out]; rfl, below_drewN HW4.out q⟩
          have q3 : wd - n0 < p := by omega
          go_wp2
          go_ret
          exact ⟨by rw [← HR.out]; rfl, below_drewN HW4.out q⟩
        have q1 : e ≤ p := by omega
        have q3 : p ≤ wd - n0 := by omega
        go_wp2_with (go_at_call 70; refine (name_any _ _ ?_).mono ?_)
        · exact hmz
        rintro _ w5 ⟨rfl, ⟨⟨q, rfl⟩⟩⟩
        rw [hnm]
        go_wp2
        go_roundw
        case rel =>
          refine ⟨k + 1, p + n0, by omega, by go_num, by go_num, by omega, by omega, ?_, below_drewN HW4.out _, HB4.out.drewN _⟩
          rw [HTK.out, List.map_append, ← HFC.out, if_neg]
          · rfl
          rintro (h | h | h | h | h)
          · exact hz h
          · rw [hnm] at h; cases h
          · omega
          · omega
          · exact HNO.out h
        case measure => simp [intOf]; omega
      · obtain rfl : k = fs.length := by omega
        have hme := HFL.out
        rw [List.drop_length, flds] at hme
        have HM := Lib.hid hme
        clear hme
        have c1 := HB.out.cell 1
        go_wp2
        go_ret
        exact ⟨by rw [← HM.out]; rfl, HW.out⟩

theorem sz_small {d : Nat} {b : Ty} (hc : b.c ≤ 2) (h : sz d b ≠ 0) : 1 ≤ d ∧ (b.c = 1 ∨ b.c = 2) ∧ numB b = true ∧ sz d b = b.w := by
  cases d with
  | zero => exact absurd rfl h
  | succ d =>
    have e : sz (d + 1) b = cap256 (numS b) := by
      rw [sz, if_neg (by omega), if_neg (by omega), if_neg (by omega)]
    by_cases hn : numB b = true
    · have hi := (numB_iff b).mp hn
      have e2 : sz (d + 1) b = b.w := by rw [e, numS, if_pos hn, if_neg (by omega), cap256, if_neg (by omega)]
      exact ⟨by omega, by omega, hn, e2⟩
    · refine absurd ?_ h
      rw [e, numS, if_neg hn]; rfl
theorem enum_zero {d : Nat} {t b : Ty} (hb : t.bs = [b]) (h : sz d b = 0 ∨ 2 < b.c) : enumS d t = 0 := by
  unfold enumS
  split
  · rfl
  rename_i hg
  rw [hb]
  show (if (b.c = 1 ∨ b.c = 2) ∧ numB b = true then mems b t.ns [] else 0) = 0
  rw [if_neg]
  rintro ⟨hc, hn⟩
  rcases h with h | h
  · have hi := (numB_iff b).mp hn
    obtain ⟨k, rfl⟩ : ∃ k, d = k + 1 := ⟨d - 1, by omega⟩
    rw [sz, if_neg (by omega), if_neg (by omega), if_neg (by omega), numS, if_pos hn, if_neg (by omega), cap256, if_neg (by omega)] at h
    omega
  · omega
theorem enum_some {d : Nat} {t b : Ty} (hb : t.bs = [b]) (hg : ¬(t.w ≠ 0 ∨ t.fs.length + t.ds.length ≠ 0 ∨ t.bs.length ≠ 1 ∨ t.ns.length = 0 ∨ 16 < t.ns.length)) (hbig : t.big = false)
    (h : sz d b ≠ 0) (hc : b.c ≤ 2) : enumS d t = mems b t.ns [] := by
  obtain ⟨h1, h2, h3, _⟩ := sz_small hc h
  unfold enumS
  rw [if_neg, hb]
  · show (if (b.c = 1 ∨ b.c = 2) ∧ numB b = true then mems b t.ns [] else 0) = _
    rw [if_pos ⟨h2, h3⟩]
  · rintro (h | h | h | h | h | h | h)
    · rw [hbig] at h; cases h
    · exact hg (.inl h)
    · exact hg (.inr (.inl h))
    · exact hg (.inr (.inr (.inl h)))
    · exact hg (.inr (.inr (.inr (.inl h))))
    · exact hg (.inr (.inr (.inr (.inr h))))
    · omega
theorem any_mems (ns : List (ByteArray × Int)) (k : Nat) (m : ByteArray × Int) :
    ((ns.take k).any fun x => x.1.toList == m.1.toList || x.2 == m.2) = true ↔ ∃ x ∈ ns.take k, x.1 = m.1 ∨ x.2 = m.2 := by
  rw [List.any_eq_true]
  constructor
  · rintro ⟨x, hx, he⟩
    rw [Bool.or_eq_true] at he
    exact ⟨x, hx, he.imp (fun h => (Go.Lib.bytes_beq_iff _ _).mp h) (fun h => beq_iff_eq.mp h)⟩
  · rintro ⟨x, hx, he⟩
    refine ⟨x, hx, ?_⟩
    rw [Bool.or_eq_true]
    exact he.imp (fun h => (Go.Lib.bytes_beq_iff _ _).mpr h) (fun h => beq_iff_eq.mpr h)

def EnRel (n0 R : Int) (b : Ty) (ns : List (ByteArray × Int)) (k : Nat) : Prop := n0 ≠ 0 → mems b (ns.drop k) (ns.take k) = R

set_option maxHeartbeats 2000000 in
set_option maxRecDepth 100000 in
theorem penum_any (d : Nat) (hd4 : d ≤ 1000) (ih : PSizeOk d) (t : Ty) (v : Value) (w : World) (ht : TyAt w w.heap.size t v) (hbig : t.big = false) :
    Calls Try.prog 51 #[v, .int .i64 (d + 1 : Nat)] w fun e w' => e = .returned (.int .i64 (enumS d t)) ∧ Below w.heap.size w w' := by
  have HTA := Lib.hid ht
  revert hbig HTA
  cases ht with
  | mk c wd bb fs ds bs ns fA dA bA nA fC dC bC nC fb fo db dO bbb bo nb nO fv bv hf hd hb hn hfz hnz hnr hcap hfA hdA hbA hnA hf0 hf1 hf2 hft hd0 hb0 hbt hn0' hn1' =>
  intro hbig HTA
  obtain rfl : bb = false := hbig
  clear hfz hfA hdA hf0 hf1 hf2 hft hd0
  have HN0 := Lib.hid hn0'
  have HN1 := Lib.hid hn1'
  have HB0 := Lib.hid hb0
  have HBT := Lib.hid hbt
  have IH := Lib.hid ih
  clear hn0' hn1' hb0 hbt ih
  have HBX := Lib.hid (Bx.new w 28 #[.int .i64 c, .int .i64 wd, .bool false, .slice fA fs.length fC, .slice dA ds.length dC, .slice bA bs.length bC, .slice nA ns.length nC])
  have HBN := Lib.hid (below_new w (.cells #[.int .i64 c, .int .i64 wd, .bool false, .slice fA fs.length fC, .slice dA ds.length dC, .slice bA bs.length bC, .slice nA ns.length nC] 28))
  generalize hR : enumS d (.mk c wd false fs ds bs ns) = R
  have HR := Lib.hid hR
  clear hR
  go_enter Try.func51, Try.ntmps51
  go_wp2_with (go_at_call 48; refine (bare_any (.mk c wd false fs ds bs ns) _ _ _ _ _ _ ?_).mono ?_)
  · exact (HTA.out.later HBN.out).up HBN.out.size
  rintro _ w2 ⟨rfl, hb2⟩
  have HW2 := Lib.hid (below_more HBN.out hb2)
  have HBX2 := Lib.hid (HBX.out.later hb2 (by simp))
  clear hb2 HBX HBN HTA
  have c1 := HBX2.out.cell 1
  have c5 := HBX2.out.cell 5
  have c6 := HBX2.out.cell 6
  by_cases hbad : wd ≠ 0 ∨ fs.length + ds.length ≠ 0 ∨ bs.length ≠ 1 ∨ ns.length = 0 ∨ 16 < ns.length
  · have hz : enumS d (.mk c wd false fs ds bs ns) = 0 := by
      unfold enumS
      refine if_pos (.inr ?_)
      rcases hbad with h | h | h | h | h
      · exact .inl h
      · exact .inr (.inl h)
      · exact .inr (.inr (.inl h))
      · exact .inr (.inr (.inr (.inl h)))
      · exact .inr (.inr (.inr (.inr (.inl h))))
    have HZ := Lib.hid (hz.symm.trans HR.out)
    clear hz HR IH HN0 HN1 HB0 HBT hnz hnr
    by_cases hbr : fs.length = 0 ∧ ds.length = 0
    · rw [show (decide ((Ty.mk c wd false fs ds bs ns).fs.length = 0)) = true from decide_eq_true hbr.1, show (decide ((Ty.mk c wd false fs ds bs ns).ds.length = 0)) = true from decide_eq_true hbr.2]
      go_wp2
      all_goals first
        | (go_ret
           exact ⟨by first | rfl | (rw [← HZ.out]; rfl), HW2.out⟩)
        | (exfalso
           rcases hbad with h | h | h | h | h <;> first | omega | (simp_all; done) | (simp_all; omega))
    · have hff : ((false || decide ((Ty.mk c wd false fs ds bs ns).fs.length = 0)) && (false || decide ((Ty.mk c wd false fs ds bs ns).ds.length = 0)) && (true || decide ((Ty.mk c wd false fs ds bs ns).bs.length = 0)) && (true || decide ((Ty.mk c wd false fs ds bs ns).ns.length = 0))) = false := by
        have hor : fs.length ≠ 0 ∨ ds.length ≠ 0 := by omega
        rcases hor with h | h
        · rw [show (decide ((Ty.mk c wd false fs ds bs ns).fs.length = 0)) = false from decide_eq_false h]; rfl
        · rw [show (decide ((Ty.mk c wd false fs ds bs ns).ds.length = 0)) = false from decide_eq_false h]
          cases (decide ((Ty.mk c wd false fs ds bs ns).fs.length = 0)) <;> rfl
      rw [hff]
      go_wp2
      all_goals
        go_ret
        exact ⟨by first | rfl | (rw [← HZ.out]; rfl), HW2.out⟩
  · have HBAD := Lib.hid hbad
    obtain rfl : wd = 0 := by omega
    obtain ⟨b0, rfl⟩ : ∃ b0, bs = [b0] := List.length_eq_one_iff.mp (by omega)
    have hd1 : 1 ≤ ns.length := by omega
    have hd2 : ns.length ≤ 16 := by omega
    have hdz : ((ns.length : Int) == 0) = false := by rw [beq_eq_false_iff_ne]; omega
    rw [show (decide ((Ty.mk c 0 false fs ds [b0] ns).fs.length = 0)) = true from decide_eq_true (show fs.length = 0 by omega), show (decide ((Ty.mk c 0 false fs ds [b0] ns).ds.length = 0)) = true from decide_eq_true (show ds.length = 0 by omega)]
    clear hbad
    obtain ⟨rfl, hnb⟩ := hbA (by simp)
    obtain ⟨rfl, hnd⟩ := hnA (by omega)
    have hc := fun o : Nat => HW2.out.cell (p := ⟨bbb, o, none⟩) hnb
    have a0 := (hc bo).trans (HB0.out 0 (by simp) 0 (by omega))
    have a1 := (hc (bo + 1)).trans (HB0.out 0 (by simp) 1 (by omega))
    have a2 := (hc (bo + 2)).trans (HB0.out 0 (by simp) 2 (by omega))
    have a3 := (hc (bo + 3)).trans (HB0.out 0 (by simp) 3 (by omega))
    have a4 := (hc (bo + 4)).trans (HB0.out 0 (by simp) 4 (by omega))
    have a5 := (hc (bo + 5)).trans (HB0.out 0 (by simp) 5 (by omega))
    have a6 := (hc (bo + 6)).trans (HB0.out 0 (by simp) 6 (by omega))
    clear hc
    have hbt := HBT.out 0 (by simp)
    rw [show [b0][0] = b0 from rfl] at hbt
    obtain ⟨fA', dA', bA', nA', fC', dC', bC', nC', e0, e1, e2, e3, e4, e5, e6⟩ := hbt.cells
    have hln := hbt.lens
    rw [e0] at a0 hbt
    rw [e1] at a1 hbt
    rw [e2] at a2 hbt
    rw [e3] at a3 hbt
    rw [e4] at a4 hbt
    rw [e5] at a5 hbt
    rw [e6] at a6 hbt
    have HBT1 := Lib.hid hbt
    clear e0 e1 e2 e3 e4 e5 e6
    clear HBT HB0 hbt
    have HWa := Lib.hid (HW2.out.alloc HW2.out.size (.cells #[.int .i64 b0.c, .int .i64 b0.w, .bool b0.big, .slice fA' b0.fs.length fC', .slice dA' b0.ds.length dC', .slice bA' b0.bs.length bC', .slice nA' b0.ns.length nC'] 28))
    have HBa := Lib.hid (Bx.new w2 28 #[.int .i64 b0.c, .int .i64 b0.w, .bool b0.big, .slice fA' b0.fs.length fC', .slice dA' b0.ds.length dC', .slice bA' b0.bs.length bC', .slice nA' b0.ns.length nC'])
    have HWan := Lib.hid (Below.alloc (Below.refl w2.heap.size w2) (Nat.le_refl _) (.cells #[.int .i64 b0.c, .int .i64 b0.w, .bool b0.big, .slice fA' b0.fs.length fC', .slice dA' b0.ds.length dC', .slice bA' b0.bs.length bC', .slice nA' b0.ns.length nC'] 28))
    have hlt2 := HBX2.out.lt
    by_cases hcl : 2 < b0.c
    · have HZ := Lib.hid ((enum_zero (d := d) (t := .mk c 0 false fs ds [b0] ns) rfl (.inr hcl)).symm.trans HR.out)
      clear HR IH HN0 HN1 hnz hnr HBT1
      go_wp2
      go_ret
      exact ⟨by first | rfl | (rw [← HZ.out]; rfl), HWa.out⟩
    have hcl2 : b0.c ≤ 2 := by omega
    clear hcl
    generalize hnn : sz d b0 = n0
    have HNN := Lib.hid hnn
    have hsl : n0 ≤ 256 := by rw [← hnn]; exact sz_le _ _
    have hsg : 0 ≤ n0 := by rw [← hnn]; exact sz_ge _ _
    clear hnn
    go_wp2_with (go_at_call 33; refine (IH.out b0 _ _ ?_).mono ?_)
    · exact (HBT1.out.later HWa.out).up HWa.out.size
    rintro _ w3 ⟨he, hb3⟩
    rw [HNN.out] at he
    subst he
    have hs4 : (w2.alloc (.cells #[.int .i64 b0.c, .int .i64 b0.w, .bool b0.big, .slice fA' b0.fs.length fC', .slice dA' b0.ds.length dC', .slice bA' b0.bs.length bC', .slice nA' b0.ns.length nC'] 28)).heap.size = w2.heap.size + 1 := by simp
    rw [hs4] at hb3
    have HW3 := Lib.hid (below_then HWa.out HWa.out.size (by rw [hs4]; exact hb3))
    have HB3 := Lib.hid ((HBX2.out.later HWan.out hlt2).later hb3 (by omega))
    have HA3 := Lib.hid (HBa.out.later hb3 (by omega))
    clear hs4 hb3 HWa HBa HWan HBX2 a0 a1 a2 a3 a4 a5 a6 c1 c5 c6 hlt2
    have hrz : n0 = 0 → R = 0 := fun h => by rw [← HR.out]; exact enum_zero (t := .mk c 0 false fs ds [b0] ns) rfl (.inl (HNN.out.trans h))
    have hrs : n0 ≠ 0 → mems b0 ns [] = R ∧ (b0.c = 1 ∨ b0.c = 2) ∧ 1 ≤ b0.w ∧ b0.w ≤ 8 ∧ n0 = b0.w := fun h => by
      have h' : sz d b0 ≠ 0 := by rw [HNN.out]; exact h
      obtain ⟨_, k2, k3, k4⟩ := sz_small hcl2 h'
      have hi := (numB_iff b0).mp k3
      exact ⟨by rw [← HR.out]; exact (enum_some (t := .mk c 0 false fs ds [b0] ns) rfl HBAD.out rfl h' hcl2).symm, k2, by omega, by omega, by rw [← k4, HNN.out]⟩
    have HRZ := Lib.hid hrz
    have HRS := Lib.hid hrs
    clear hrz hrs HR HNN HBAD hcl2
    have d6 := HB3.out.cell 6
    go_wp2
    go_loopw [50] (fun i wr => ∃ k : Nat, k ≤ ns.length ∧ i = .int .i64 k ∧ EnRel n0 R b0 ns k ∧ Below w.heap.size w wr ∧
        Bx wr w.heap.size 28 #[.int .i64 c, .int .i64 0, .bool false, .slice fA fs.length fC, .slice dA ds.length dC, .slice (some ⟨bbb, bo, none⟩) [b0].length bC, .slice (some ⟨nb, nO, none⟩) ns.length nC] ∧
        Bx wr w2.heap.size 28 #[.int .i64 b0.c, .int .i64 b0.w, .bool b0.big, .slice fA' b0.fs.length fC', .slice dA' b0.ds.length dC', .slice bA' b0.bs.length bC', .slice nA' b0.ns.length nC']) (fun i _ => ns.length - (intOf i).toNat)
    case atStart => exact ⟨0, Nat.zero_le _, rfl, fun h => (HRS.out h).1, HW3.out, HB3.out, HA3.out⟩
    case round =>
      clear HW3 HB3 HA3 d6
      obtain ⟨k, hk, rfl, hme, hW, hB, hA⟩ := hrel
      have c6 := hB.cell 6
      have z0 := hA.cell 0
      have z1 := hA.cell 1
      have z2 := hA.cell 2
      have z3 := hA.cell 3
      have z4 := hA.cell 4
      have z5 := hA.cell 5
      have z6 := hA.cell 6
      have hlt2 := hB.lt
      have hlt3 := hA.lt
      have HW := Lib.hid hW
      have HB := Lib.hid hB
      have HA := Lib.hid hA
      have HME := Lib.hid hme
      clear hW hB hA hme
      by_cases hlt : k < ns.length
      · have n0c := (HW.out.cell (p := ⟨nb, nO + k * 2, none⟩) hnd).trans (HN0.out k hlt)
        have n1c := (HW.out.cell (p := ⟨nb, nO + k * 2 + 1, none⟩) hnd).trans (HN1.out k hlt)
        have hmz := hnz ns[k] (List.getElem_mem hlt)
        have hrr := hnr ns[k] (List.getElem_mem hlt)
        have hr0 := hrr.1
        have hr1 := hrr.2
        have hany := any_mems ns k ns[k]
        generalize hg : ((ns.take k).any fun x => x.1.toList == ns[k].1.toList || x.2 == ns[k].2) = tw at *
        have HG := Lib.hid hg
        have HAN := Lib.hid hany
        have hmc := HME.out
        unfold EnRel at hmc
        rw [List.drop_eq_getElem_cons hlt, mems] at hmc
        have HMC := Lib.hid hmc
        have HTK := Lib.hid (List.take_succ_eq_append_getElem hlt)
        have HWm := Lib.hid (HW.out.alloc HW.out.size (.cells #[.string ns[k].1, .int .i64 ns[k].2] 68))
        have HBm := Lib.hid (Bx.new wr 68 #[.string ns[k].1, .int .i64 ns[k].2])
        have HWn := Lib.hid (Below.alloc (Below.refl wr.heap.size wr) (Nat.le_refl _) (.cells #[.string ns[k].1, .int .i64 ns[k].2] 68))
        have hkc : k ≤ nC := by omega
        have HCT := Lib.hid (containsM nb nO k nC ns ns[k] wr.heap.size (wr.alloc (.cells #[.string ns[k].1, .int .i64 ns[k].2] 68)) (by simp) (HBm.out.cell 0) (HBm.out.cell 1) (by omega) (by omega) (Nat.lt_of_lt_of_le hnd HWm.out.size) (fun j hj i v hv => (HWm.out.cell (p := ⟨nb, nO + j * 2 + i, none⟩) hnd).trans (by
          rw [getElem!_pos ns j hj] at hv
          match i, hv with
          | 0, hv => rw [← Option.some.inj hv]; exact HN0.out j hj
          | 1, hv => rw [← Option.some.inj hv]; exact HN1.out j hj
          | i + 2, hv => cases hv)))
        clear hmc HME hrr hg hany
        go_wp2_with (go_at_call 71; refine HCT.out.mono ?_)
        rintro _ w4 ⟨he, hb4⟩
        rw [HG.out] at he
        subst he
        have hs4 : (wr.alloc (.cells #[.string ns[k].1, .int .i64 ns[k].2] 68)).heap.size = wr.heap.size + 1 := by simp
        rw [hs4] at hb4
        have HW4 := Lib.hid (below_then HWm.out HWm.out.size (by rw [hs4]; exact hb4))
        have HB4 := Lib.hid ((HB.out.later HWn.out (by omega)).later hb4 (by omega))
        have HA4 := Lib.hid ((HA.out.later HWn.out (by omega)).later hb4 (by omega))
        have HM4 := Lib.hid (HBm.out.later hb4 (by omega))
        clear hb4 hs4 HCT HG HB HA HBm HWm HWn c6 n0c n1c z0 z1 z2 z3 z4 z5 z6
        have m0 := HM4.out.cell 0
        have m1 := HM4.out.cell 1
        by_cases hz : n0 = 0
        · have HR := Lib.hid (HRZ.out hz)
          subst hz
          go_wp2
          go_ret
          exact ⟨by rw [HR.out]; rfl, HW4.out⟩
        have hzb : (n0 == 0) = false := beq_eq_false_iff_ne.mpr hz
        have hmc := HMC.out hz
        obtain ⟨-, hc12, hw1, hw8, -⟩ := HRS.out hz
        have HMC2 := Lib.hid hmc
        clear HMC hmc
        by_cases htw : tw = true
        · have hR : 0 = R := by rw [← HMC2.out, if_pos (.inr (.inr (HAN.out.mp htw)))]
          have HR := Lib.hid hR
          clear hR
          subst htw
          go_wp2
          go_ret
          exact ⟨by rw [← HR.out]; rfl, HW4.out⟩
        obtain rfl : tw = false := by cases tw <;> simp_all
        have hno : ¬ ∃ x ∈ ns.take k, x.1 = ns[k].1 ∨ x.2 = ns[k].2 := fun h => by have := HAN.out.mpr h; cases this
        have HNO := Lib.hid hno
        clear hno htw
        by_cases hnm : nameB ns[k].1 = true
        rotate_left
        · have hR : 0 = R := by rw [← HMC2.out, if_pos (.inl (by rwa [Bool.not_eq_true] at hnm))]
          have HR := Lib.hid hR
          clear hR
          rw [Bool.not_eq_true] at hnm
          go_wp2_with (go_at_call 70; refine (name_any _ _ ?_).mono ?_)
          · exact hmz
          rintro _ w5 ⟨rfl, ⟨⟨q, rfl⟩⟩⟩
          rw [hnm]
          go_wp2
          go_ret
          exact ⟨by rw [← HR.out]; rfl, below_drewN HW4.out q⟩
        have z0 := HA4.out.cell 0
        have z1 := HA4.out.cell 1
        have z2 := HA4.out.cell 2
        have z3 := HA4.out.cell 3
        have z4 := HA4.out.cell 4
        have z5 := HA4.out.cell 5
        have z6 := HA4.out.cell 6
        go_wp2_with (go_at_call 70; refine (name_any _ _ ?_).mono ?_)
        · exact hmz
        rintro _ w5 ⟨rfl, ⟨⟨q, rfl⟩⟩⟩
        rw [hnm]
        go_wp2_with (go_at_call 73; refine (within_any b0 _ _ _ ?_ ?_ ?_ ?_ ?_ ?_).mono ?_)
        · exact (HBT1.out.later (below_drewN HW4.out q)).up (below_drewN HW4.out q).size
        · omega
        · omega
        · omega
        · omega
        · omega
        rintro _ w6 ⟨rfl, hb6⟩
        have HW6 := Lib.hid (below_then (below_drewN HW4.out q) (below_drewN HW4.out q).size hb6)
        have HB6 := Lib.hid ((HB4.out.drewN q).later hb6 (HB4.out.drewN q).lt)
        have HA6 := Lib.hid ((HA4.out.drewN q).later hb6 (HA4.out.drewN q).lt)
        clear hb6 HB4 HA4 HM4 HW4 m0 m1 z0 z1 z2 z3 z4 z5 z6
        by_cases hft : fitsB ns[k].2 b0.c b0.w = true
        · rw [hft]
          go_wp2
          go_roundw
          case rel =>
            refine ⟨k + 1, by omega, by go_num, fun _ => ?_, HW6.out, HB6.out, HA6.out⟩
            rw [HTK.out, ← HMC2.out, if_neg]
            rintro (h | h | h)
            · rw [hnm] at h; cases h
            · rw [hft] at h; cases h
            · exact HNO.out h
          case measure => simp [intOf]; omega
        · rw [Bool.not_eq_true] at hft
          have hR : 0 = R := by rw [← HMC2.out, if_pos (.inr (.inl hft))]
          have HR := Lib.hid hR
          clear hR
          rw [hft]
          go_wp2
          go_ret
          exact ⟨by rw [← HR.out]; rfl, HW6.out⟩
      · obtain rfl : k = ns.length := by omega
        have hR : n0 = R := by
          by_cases hz : n0 = 0
          · rw [hz, HRZ.out hz]
          · have hme := HME.out hz
            rw [List.drop_length, mems] at hme
            rw [← hme, (HRS.out hz).2.2.2.2]
        have HR := Lib.hid hR
        clear hR
        go_wp2
        go_ret
        exact ⟨by rw [← HR.out]; rfl, HW.out⟩
end Go.Proofs.Ytbdhihgokkcmfaa.Ty9
