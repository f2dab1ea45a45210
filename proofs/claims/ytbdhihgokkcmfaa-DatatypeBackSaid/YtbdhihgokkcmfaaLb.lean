/- Bytes of the program. -/
import Derived.Test.YtbdhihgokkcmfaaLa
import Derived.Deep.RegionHeld3
import Derived.Deep.DrawnRows
namespace Go.Proofs.Ytbdhihgokkcmfaa.Ty9
set_option linter.unusedVariables false
set_option linter.unusedSimpArgs false
open Go.RowKit Wd

attribute [local go_sem ↓] Go.wp_at_zero Go.wp_at_succ

def Lb : Nat → Nat
  | 0 => 0
  | d + 1 => 1400 + 16 * Lb d
theorem mems_cons {b : Ty} {m : ByteArray × Int} {ms pre : List (ByteArray × Int)} (h : mems b (m :: ms) pre ≠ 0) :
    nameB m.1 = true ∧ fitsB m.2 b.c b.w = true ∧ (¬ ∃ x ∈ pre, x.1 = m.1 ∨ x.2 = m.2) ∧ mems b ms (pre ++ [m]) ≠ 0 := by
  rw [mems] at h
  split at h
  · exact absurd rfl h
  rename_i hg
  exact ⟨by cases hn : nameB m.1; exact absurd (.inl hn) hg; rfl, by cases hn : fitsB m.2 b.c b.w; exact absurd (.inr (.inl hn)) hg; rfl, fun x => hg (.inr (.inr x)), h⟩
theorem nameB_len {s : ByteArray} (h : nameB s = true) : 1 ≤ s.size ∧ s.size ≤ 64 := ⟨((nameB_iff s).mp h).1, ((nameB_iff s).mp h).2.1⟩
theorem lbm_len {b : Ty} : ∀ (ns pre : List (ByteArray × Int)), mems b ns pre ≠ 0 → (lbm ns).length ≤ ns.length * 76
  | [], _, _ => Nat.le_refl _
  | m :: ns, pre, h => by
    obtain ⟨h1, _, _, h2⟩ := mems_cons h
    have ih := lbm_len ns _ h2
    have hn := nameB_len h1
    have e : lbm (m :: ns) = (digs 4 true m.1.size ++ sbytes m.1 ++ digs 8 true (bits64 m.2)) ++ lbm ns := rfl
    rw [e]
    simp only [List.length_append, digs_len, sbytes_len, List.length_cons]
    omega
theorem lbd_len (ds : List Int) : (lbd ds).length = ds.length * 2 := by
  induction ds with
  | nil => rfl
  | cons d ds ih =>
    have e : lbd (d :: ds) = digs 2 true (bits64 d) ++ lbd ds := rfl
    rw [e, List.length_append, digs_len, ih, List.length_cons]
    omega
theorem lb_len (d : Nat) : ∀ t, sz d t ≠ 0 → (lb t).length ≤ Lb d := by
  induction d with
  | zero => intro t h; exact absurd rfl h
  | succ d ih =>
    intro t h
    show _ ≤ 1400 + 16 * Lb d
    by_cases h5 : t.c = 5
    · obtain ⟨e, hw, hw2, hbig, hl, hf1, hf2, hfl⟩ := sz_comp h5 h
      have hh : ∀ (fs : List Fd) pre (e : Int), flds (sz d) t.w fs pre e ≠ 0 → (lbf fs).length ≤ fs.length * (70 + Lb d) := by
        intro fs
        induction fs with
        | nil => intro pre e _; exact Nat.zero_le _
        | cons f fs ihf =>
          intro pre e hne
          obtain ⟨h1, h2, h3, h4, h5', h6'⟩ := flds_cons hne
          have hp := ihf _ _ h6'
          have hq := ih f.ty h1
          have hn := nameB_len h2
          rw [lbf_cons]
          simp only [List.length_append, digs_len, sbytes_len, List.length_cons]
          rw [Nat.succ_mul]
          omega
      have h1 := hh t.fs [] 0 (by omega)
      have h2 : t.fs.length * (70 + Lb d) ≤ 16 * (70 + Lb d) := Nat.mul_le_mul_right _ hf2
      rw [lb_comp h5]
      simp only [List.length_append, digs_len, List.length_cons]
      omega
    by_cases h6 : t.c = 6
    · obtain ⟨b, hb, hb0, e, hp, hbig, hw, hl, hd1, hd2, hdm⟩ := sz_arr h6 h
      have hq := ih b hb0
      rw [lb_arr h6 hb]
      simp only [List.length_append, digs_len, List.length_cons, lbd_len]
      omega
    by_cases h7 : t.c = 7
    · obtain ⟨b, hb, hbc, hn, e, hd1, hbig, hw, hl, hn1, hn2, hm⟩ := sz_enum h7 h
      have hq := lbm_len t.ns [] hm
      rw [lb_enum h7 hb, lb_num (by omega) (by omega) (by omega)]
      simp only [List.length_append, digs_len, List.length_cons, List.length_nil]
      omega
    · rw [lb_num h5 h6 h7]
      simp
      omega

theorem Lb_le {d : Nat} (h : d ≤ 4) : Lb d ≤ 6200000 := by
  have : d = 0 ∨ d = 1 ∨ d = 2 ∨ d = 3 ∨ d = 4 := by omega
  rcases this with rfl | rfl | rfl | rfl | rfl <;> simp [Lb]
/-- What holds of the fields that are still to be laid down. -/
structure LayLeft (d : Nat) (W : Int) (n : Nat) (tot : List Nat) (fs : List Fd) (ys : List Nat) : Prop where
  ex : ∃ pre e, flds (sz d) W fs pre e ≠ 0 ∧ 0 ≤ e
  all : ys ++ lbf fs = tot
  len : tot.length ≤ n
theorem LayLeft.step {d n : Nat} {W : Int} {tot : List Nat} {f : Fd} {fs : List Fd} {ys : List Nat} (h : LayLeft d W n tot (f :: fs) ys) :
    sz d f.ty ≠ 0 ∧ (1 ≤ f.name.size ∧ f.name.size ≤ 64) ∧ ys.length + f.name.size + 6 ≤ n ∧ 0 ≤ f.pos ∧ f.pos ≤ W ∧ LayLeft d W n tot fs (ys ++ digs 4 true f.name.size ++ sbytes f.name ++ digs 2 true (bits64 f.pos) ++ lb f.ty) := by
  obtain ⟨pre, e, hf, he⟩ := h.ex
  obtain ⟨h1, h2, h3, h4, h5, h6⟩ := flds_cons hf
  have ha := h.all
  have hn := h.len
  have hg := sz_ge d f.ty
  rw [lbf_cons] at ha
  refine ⟨h1, nameB_len h2, ?_, by omega, by omega, ⟨_, _, h6, by omega⟩, ?_, hn⟩
  · rw [← ha] at hn
    simp only [List.length_append, digs_len, sbytes_len] at hn
    omega
  · rw [← ha]; simp only [List.append_assoc]

def LayOk (d : Nat) : Prop := ∀ (base B : Nat) (t : Ty) (v V : Value) (bs : List Nat) (w : World), sz d t ≠ 0 → TyAt w B t v → B ≤ base → base ≤ w.heap.size →
  w.ownsRow base 5 1 V bs.length (by8 bs) → (∀ y ∈ bs, y < 256) → bs.length + 7000000 * d ≤ 140737000000000 → Calls Try.prog 37 #[V, v] w (LP base V (bs ++ lb t) w)

set_option maxHeartbeats 4000000 in
set_option maxRecDepth 100000 in
theorem lay_comp (d : Nat) (hd : d ≤ 3) (ih : LayOk d) (base B : Nat) (t : Ty) (v V : Value) (bs : List Nat) (w : World) (hc : t.c = 5) (hz : sz (d + 1) t ≠ 0) (ht : TyAt w B t v) (hB : B ≤ base) (hbase : base ≤ w.heap.size)
    (ho : w.ownsRow base 5 1 V bs.length (by8 bs)) (hlt : ∀ y ∈ bs, y < 256) (hl : bs.length + 7000000 * (d + 1) ≤ 140737000000000) :
    Calls Try.prog 37 #[V, v] w (LP base V (bs ++ lb t) w) := by
  obtain ⟨e, hw1, hw2, hbig, hll, hf1, hf2, hfl⟩ := sz_comp hc hz
  have hlb := lb_len (d + 1) t hz
  rw [lb_comp hc] at hlb ⊢
  clear e hz
  revert hc; revert hw1; revert hw2; revert hbig; revert hll; revert hf1; revert hf2; revert hfl; revert hlb
  cases ht with
  | mk c wd bb fs ds bs' ns fA dA bA nA fC dC bC nC fb fo db dO bbb bo nb nO fv bv hf hd' hb' hn hfz hnz hnr hcap hfA hdA hbA hnA hf0 hf1' hf2' hft hd0 hb0 hbt hn0' hn1' =>
  intro hlb hfl hf2 hf1 hll hbig hw2 hw1 hc
  obtain rfl : c = 5 := hc
  obtain rfl : bb = false := hbig
  simp only [Ty.w, Ty.fs, Ty.ds, Ty.bs, Ty.ns] at *
  clear hnz hnr hdA hbA hnA hd0 hb0 hbt hn0' hn1'
  have HF0 := Lib.hid hf0
  have HF1 := Lib.hid hf1'
  have HF2 := Lib.hid hf2'
  have HFT := Lib.hid hft
  have IH := Lib.hid ih
  clear hf0 hf1' hf2' hft ih
  obtain ⟨rfl, hnf⟩ := hfA (by omega)
  obtain ⟨A, C, rfl⟩ := own_form ho
  have HBN := Lib.hid (below_new w (.cells #[.int .i64 5, .int .i64 wd, .bool false, .slice (some ⟨fb, fo, none⟩) fs.length fC, .slice dA ds.length dC, .slice bA bs'.length bC, .slice nA ns.length nC] 28))
  have HBX := Lib.hid (Bx.new w 28 #[.int .i64 5, .int .i64 wd, .bool false, .slice (some ⟨fb, fo, none⟩) fs.length fC, .slice dA ds.length dC, .slice bA bs'.length bC, .slice nA ns.length nC])
  have HNE := Lib.hid (show some w.heap.size ≠ (Value.slice A bs.length C).ownBlock from fun e => absurd (ho.lt _ e.symm).2 (Nat.lt_irrefl _))
  have HOB := Lib.hid (fun k hk => (ho.lt k hk).1)
  have HR0 := Lib.hid ((Rl.refl ho hlt).below HBN.out)
  have HLT := Lib.hid hlt
  clear ho hlt
  have hsz := size_alloc w (.cells #[.int .i64 5, .int .i64 wd, .bool false, .slice (some ⟨fb, fo, none⟩) fs.length fC, .slice dA ds.length dC, .slice bA bs'.length bC, .slice nA ns.length nC] 28)
  have HSZ := Lib.hid hsz
  generalize hW0 : w.alloc (.cells #[.int .i64 5, .int .i64 wd, .bool false, .slice (some ⟨fb, fo, none⟩) fs.length fC, .slice dA ds.length dC, .slice bA bs'.length bC, .slice nA ns.length nC] 28) = w0 at *
  have HR1 := Lib.hid (HR0.out.below (below_new _ (.cells (by8 [5]).toArray 5)))
  have hby := Byt.lit w0 [5] (by intro x hx; rw [List.mem_singleton] at hx; omega)
  rw [hsz] at hby
  have HBY := Lib.hid hby
  have HBB := Lib.hid (show base ≤ (w0.alloc (.cells (by8 [5]).toArray 5)).heap.size by rw [size_alloc, hsz]; omega)
  have HBX1 := Lib.hid (HBX.out.later (below_new _ (.cells (by8 [5]).toArray 5)) (by rw [hsz]; exact Nat.lt_succ_self _))
  have HLL := Lib.hid (show bs.length + 1 ≤ 140737488355328 by omega)
  subst hW0
  clear hsz hby
  go_enter Try.func37, Try.ntmps37
  go_wp2_with (at_builtin; refine wp_app rfl (.tmp 11) (.tmp 15) rfl base 1 1 (.slice A bs.length C) bs [5] (some ⟨w.heap.size + 1, 0, none⟩) _ rfl rfl HR1.out.own HLT.out HBY.out HLL.out HBB.out ?_; intro V1 w1 hr1; refine Hid.out ?_)
  generalize hqq : bs ++ [5] = l1 at hr1
  have HQ1 := Lib.hid hqq.symm
  clear hqq
  have HR2 := Lib.hid (HR1.out.trans hr1)
  have hbx1 := hr1.bx HBX1.out HNE.out
  have b0 := hbx1.cell 0
  have b1 := hbx1.cell 1
  have b3 := hbx1.cell 3
  have HNE1 := Lib.hid (hr1.ne (by rw [size_alloc, HSZ.out]; omega) HNE.out)
  have hs1 := hr1.gr.size
  rw [size_alloc, HSZ.out] at hs1
  obtain ⟨A1, C1, rfl⟩ := own_form hr1.own
  have HBXa := Lib.hid hbx1
  clear hr1 hbx1
  refine go_on ?_
  have HB1 := Lib.hid (show base ≤ w1.drew.heap.size by show base ≤ w1.heap.size; omega)
  have HR2d := Lib.hid (HR2.out.below (Below.refl _ _).drew)
  have HBXd := Lib.hid (HBXa.out.drew)
  have hLb := Lb_le (show d + 1 ≤ 4 by omega)
  have hl1 : l1.length ≤ 140737488000000 := by rw [HQ1.out, List.length_append]; show bs.length + 1 ≤ _; omega
  have HL1 := Lib.hid hl1
  have HLd := Lib.hid hlb
  have HL := Lib.hid hl
  have HLx := Lib.hid (show (l1 ++ digs 2 true (bits64 wd)).length ≤ 140737488000000 by rw [List.length_append, digs_len, HQ1.out, List.length_append]; show bs.length + 1 + 2 ≤ _; omega)
  have HLy := Lib.hid (show w.heap.size < w1.drew.heap.size by show w.heap.size < w1.heap.size; omega)
  clear hl1 hlb hl hLb
  have n12 : 1 ≤ 2 := by omega
  have n28 : 2 ≤ 8 := by omega
  have n18 : 1 ≤ 8 := by omega
  have hwa : -9223372036854775808 ≤ wd := by omega
  have hwb : wd ≤ 9223372036854775807 := by omega
  have hu1 : bits64 wd < 256 ^ 2 := by unfold bits64; omega
  have hu2 : bits64 (fs.length : Int) < 256 ^ 1 := by unfold bits64; omega
  have HU1 := Lib.hid hu1
  have HU2 := Lib.hid hu2
  clear hu1 hu2
  go_wp2
  go_region_held3 (fun w' => w'.cell? ⟨w.heap.size, 1, none⟩ = some (.int .i64 wd) ∧ w'.cell? ⟨w.heap.size, 3, none⟩ = some (.slice (some ⟨fb, fo, none⟩) fs.length fC))
    (first
      | (exact ⟨hbx3.cell 1, hbx3.cell 3⟩)
      | (exact ⟨hbx2.cell 1, hbx2.cell 3⟩)
      | go_keep)
    (first
      | (go_at_call_of 56 (Value.slice A1 l1.length C1); refine (dput_any base 2 wd (.slice A1 l1.length C1) l1 _ n12 n28 hwa hwb HU1.out HL1.out HB1.out HR2d.out.own HR2d.out.lt).mono ?_; rintro _ w2 ⟨V2, rfl, hr2⟩; have hbx2 := hr2.bx HBXd.out HNE1.out; have HNE2 := Lib.hid (hr2.ne HLy.out HNE1.out); have HL2 := HLx; generalize hq2 : l1 ++ digs 2 true (bits64 wd) = l2 at hr2 HL2; have HQ2 := Lib.hid hq2.symm; clear hq2; have HB2 := Lib.hid (show base ≤ w2.heap.size from Nat.le_trans HB1.out hr2.gr.size); have HRa := Lib.hid hr2; clear hr2)
      | (go_at_call_of 56 V2; refine (dput_any base 1 fs.length V2 l2 _ (Nat.le_refl 1) n18 (by omega) (by omega) HU2.out HL2.out HB2.out HRa.out.own HRa.out.lt).mono ?_; rintro _ w3 ⟨V3, rfl, hr3⟩; have hbx3 := hr3.bx hbx2 HNE2.out))
  have HR3 := Lib.hid (HR2d.out.trans (HRa.out.trans hr3))
  have hb3 := Nat.le_trans HB2.out hr3.gr.size
  have hLL : LayLeft d wd (bs.length + 6200000) (bs ++ 5 :: (digs 2 true (bits64 wd) ++ digs 1 true (bits64 ↑fs.length) ++ lbf fs)) fs (l2 ++ digs 1 true (bits64 fs.length)) := by
    refine ⟨⟨[], 0, by rw [hfl]; omega, Int.le_refl _⟩, ?_, ?_⟩
    · rw [HQ2.out, HQ1.out]; simp only [List.append_assoc, List.cons_append, List.nil_append]
    · have := HLd.out
      have := Lb_le (show d + 1 ≤ 4 by omega)
      rw [List.length_append]
      omega
  generalize hq3 : l2 ++ digs 1 true (bits64 fs.length) = l3 at *
  generalize htot : bs ++ 5 :: (digs 2 true (bits64 wd) ++ digs 1 true (bits64 ↑fs.length) ++ lbf fs) = tot at *
  have HTOT := Lib.hid htot
  have HLL2 := Lib.hid hLL
  have c3 := hbx3.cell 3
  have HWx := Lib.hid (show w.heap.size + 1 ≤ w3.heap.size from hbx3.lt)
  clear hr3 hbx3 hbx2 HR2d HRa HBXd HBXa hq3 hLL htot b0 b1 b3 HL2 HB2 HNE2 HQ2 HB1 HL1 HLd HLx HLy HU1 HU2 HNE1 HR2 HR1 HR0 HBX HBX1 HBY HBB HBN HSZ HLT HLL
  go_wp2
  go_loopw [0, 45] (fun x i wr => ∃ (k : Nat) (V' : Value) (ys : List Nat), k ≤ fs.length ∧ x = V' ∧ i = .int .i64 k ∧ LayLeft d wd (bs.length + 6200000) tot (fs.drop k) ys ∧ Rl base (.slice A bs.length C) w V' ys wr) (fun _ i _ => fs.length - (intOf i).toNat)
  case atStart => exact ⟨0, V3, l3, Nat.zero_le _, rfl, rfl, HLL2.out, HR3.out⟩
  case round =>
    clear c3 HR3 HLL2
    obtain ⟨k, V', ys, hk, rfl, rfl, hcl, hr⟩ := hrel
    have HCL := Lib.hid hcl
    have HR := Lib.hid hr
    clear hcl hr
    by_cases hlt3 : k < fs.length
    · have HW := Lib.hid (HR.out.keep (B := B) (by omega) (fun k hk => Nat.le_trans hB (HOB.out k hk)))
      have hc := fun o : Nat => HW.out.cell (p := ⟨fb, o, none⟩) hnf
      have g0 := (hc (fo + k * 9)).trans (HF0.out k hlt3)
      have g1 := (hc (fo + k * 9 + 1)).trans (HF1.out k hlt3)
      have a0 : wr.cell? ⟨fb, fo + k * 9 + 2, none⟩ = some (fv k 0) := (hc _).trans (HF2.out k hlt3 0 (by omega))
      have a1 := (hc (fo + k * 9 + 2 + 1)).trans (HF2.out k hlt3 1 (by omega))
      have a2 := (hc (fo + k * 9 + 2 + 2)).trans (HF2.out k hlt3 2 (by omega))
      have a3 := (hc (fo + k * 9 + 2 + 3)).trans (HF2.out k hlt3 3 (by omega))
      have a4 := (hc (fo + k * 9 + 2 + 4)).trans (HF2.out k hlt3 4 (by omega))
      have a5 := (hc (fo + k * 9 + 2 + 5)).trans (HF2.out k hlt3 5 (by omega))
      have a6 := (hc (fo + k * 9 + 2 + 6)).trans (HF2.out k hlt3 6 (by omega))
      clear hc
      have hbt := HFT.out k hlt3
      obtain ⟨fA', dA', bA', nA', fC', dC', bC', nC', e0, e1, e2, e3, e4, e5, e6⟩ := hbt.cells
      have hln := hbt.lens
      rw [e0] at a0 hbt
      rw [e1] at a1 hbt
      rw [e2] at a2 hbt
      rw [e3] at a3 hbt
      rw [e4] at a4 hbt
      rw [e5] at a5 hbt
      rw [e6] at a6 hbt
      have HBT1 := Lib.hid hbt
      clear e0 e1 e2 e3 e4 e5 e6 hbt
      have hcl := HCL.out
      rw [List.drop_eq_getElem_cons hlt3] at hcl
      obtain ⟨k1, ⟨k2, k3⟩, k4, k5, k6, k7⟩ := hcl.step
      have K1 := Lib.hid k1
      have K7 := Lib.hid k7
      clear hcl k1 k7 HCL
      obtain ⟨A2, C2, rfl⟩ := own_form HR.out.own
      have hwm := below_new wr (.cells (#[.string fs[k].name, .int .i64 fs[k].pos, .int .i64 fs[k].ty.c, .int .i64 fs[k].ty.w, .bool fs[k].ty.big, .slice fA' fs[k].ty.fs.length fC', .slice dA' fs[k].ty.ds.length dC', .slice bA' fs[k].ty.bs.length bC', .slice nA' fs[k].ty.ns.length nC']) 66)
      have hbx := Bx.new wr 66 #[.string fs[k].name, .int .i64 fs[k].pos, .int .i64 fs[k].ty.c, .int .i64 fs[k].ty.w, .bool fs[k].ty.big, .slice fA' fs[k].ty.fs.length fC', .slice dA' fs[k].ty.ds.length dC', .slice bA' fs[k].ty.bs.length bC', .slice nA' fs[k].ty.ns.length nC']
      have hsm := size_alloc wr (.cells (#[.string fs[k].name, .int .i64 fs[k].pos, .int .i64 fs[k].ty.c, .int .i64 fs[k].ty.w, .bool fs[k].ty.big, .slice fA' fs[k].ty.fs.length fC', .slice dA' fs[k].ty.ds.length dC', .slice bA' fs[k].ty.bs.length bC', .slice nA' fs[k].ty.ns.length nC']) 66)
      obtain ⟨wc, Cc, hcv, hby, hbw, hsz⟩ := conv_string (wr.alloc (.cells (#[.string fs[k].name, .int .i64 fs[k].pos, .int .i64 fs[k].ty.c, .int .i64 fs[k].ty.w, .bool fs[k].ty.big, .slice fA' fs[k].ty.fs.length fC', .slice dA' fs[k].ty.ds.length dC', .slice bA' fs[k].ty.bs.length bC', .slice nA' fs[k].ty.ns.length nC']) 66)) fs[k].name
      rw [hsm] at hcv hby hsz
      have hszr := HR.out.gr.size
      have hl := HL.out
      have hm1 : ys.length ≤ 140737488000000 := by omega
      have hm2 : fs[k].name.size ≤ 65536 := by omega
      have hrc := (HR.out.below hwm).below hbw
      have HRc := Lib.hid hrc
      have HBc := Lib.hid (Byt.of_own hrc.own hrc.lt)
      have HBn := Lib.hid (hby.up (show wr.heap.size + 1 + 1 ≤ wc.heap.size by omega))
      have HFc := Lib.hid (hbx.later hbw (by rw [hsm]; exact Nat.lt_succ_self _))
      have HSC := Lib.hid hsz
      have HWc := Lib.hid (hwm.trans (hbw.mono (by rw [hsm]; omega)))
      clear hwm hbx hsm hby hbw hsz hrc
      go_wp2_with (go_at_call 57; refine (putBytes_ok ys.length C2 fs[k].name.size Cc A2 (some ⟨wr.heap.size + 1, 0, none⟩) ys (sbytes fs[k].name) wc hm2 hm1 HBc.out HBn.out).mono ?_)
      rintro _ w4 ⟨V4, rfl, ho4, hb4⟩
      have hl4 : (ys ++ digs 4 true fs[k].name.size ++ sbytes fs[k].name).length = ys.length + 4 + fs[k].name.size := by simp only [List.length_append, digs_len, sbytes_len]
      have HL4 := Lib.hid (show (ys ++ digs 4 true fs[k].name.size ++ sbytes fs[k].name).length ≤ 140737488000000 by omega)
      have HL5 := Lib.hid (show ((ys ++ digs 4 true fs[k].name.size ++ sbytes fs[k].name) ++ digs 2 true (bits64 fs[k].pos)).length + 7000000 * d ≤ 140737000000000 by rw [List.length_append, digs_len]; omega)
      rw [← hl4] at ho4
      have HNEf := Lib.hid (show some wr.heap.size ≠ V4.ownBlock from fun e => by have := (ho4.lt _ e.symm).1; have := HSC.out; omega)
      have hr4 := HRc.out.new hb4 ho4 (lt_app (lt_app HRc.out.lt (digs_lt _ _ _)) (sbytes_lt _)) (by have := HSC.out; omega) (by omega)
      have hf4 := HFc.out.later hb4 HFc.out.lt
      have hs4 := hb4.size
      generalize hq4 : ys ++ digs 4 true fs[k].name.size ++ sbytes fs[k].name = l4 at hr4 HL4 HL5 K7
      have HR4d := Lib.hid (hr4.below (Below.refl _ _).drew)
      have HF4d := Lib.hid hf4.drew
      have f1 := hf4.cell 1
      have f2 := hf4.cell 2
      have f3 := hf4.cell 3
      have f4 := hf4.cell 4
      have f5 := hf4.cell 5
      have f6 := hf4.cell 6
      have f7 := hf4.cell 7
      have f8 := hf4.cell 8
      have HB4 := Lib.hid (show base ≤ w4.drew.heap.size by show base ≤ w4.heap.size; have := HSC.out; omega)
      have HG4 := Lib.hid (show wr.heap.size < w4.drew.heap.size by show wr.heap.size < w4.heap.size; have := HSC.out; omega)
      have HUp := Lib.hid (show bits64 fs[k].pos < 256 ^ 2 by unfold bits64; omega)
      have hpa : -9223372036854775808 ≤ fs[k].pos := by omega
      have hpb : fs[k].pos ≤ 9223372036854775807 := by omega
      clear hl4 ho4 hb4 hr4 hf4 HFc HBn HBc hcv hq4 a0 a1 a2 a3 a4 a5 a6 g0 g1
      go_wp2
      go_region_held3 (fun w' => w'.cell? ⟨wr.heap.size, 1, none⟩ = some (.int .i64 fs[k].pos) ∧ w'.cell? ⟨wr.heap.size, 2, none⟩ = some (.int .i64 fs[k].ty.c) ∧ w'.cell? ⟨wr.heap.size, 3, none⟩ = some (.int .i64 fs[k].ty.w) ∧ w'.cell? ⟨wr.heap.size, 4, none⟩ = some (.bool fs[k].ty.big) ∧ w'.cell? ⟨wr.heap.size, 5, none⟩ = some (.slice fA' fs[k].ty.fs.length fC') ∧ w'.cell? ⟨wr.heap.size, 6, none⟩ = some (.slice dA' fs[k].ty.ds.length dC') ∧ w'.cell? ⟨wr.heap.size, 7, none⟩ = some (.slice bA' fs[k].ty.bs.length bC') ∧ w'.cell? ⟨wr.heap.size, 8, none⟩ = some (.slice nA' fs[k].ty.ns.length nC'))
        (first
          | (exact ⟨hbx6.cell 1, hbx6.cell 2, hbx6.cell 3, hbx6.cell 4, hbx6.cell 5, hbx6.cell 6, hbx6.cell 7, hbx6.cell 8⟩)
          | (exact ⟨hbx5.cell 1, hbx5.cell 2, hbx5.cell 3, hbx5.cell 4, hbx5.cell 5, hbx5.cell 6, hbx5.cell 7, hbx5.cell 8⟩)
          | go_keep)
        (first
          | (go_at_call 56; refine (dput_any base 2 fs[k].pos V4 l4 _ n12 n28 hpa hpb HUp.out HL4.out HB4.out HR4d.out.own HR4d.out.lt).mono ?_; rintro _ w5 ⟨V5, rfl, hr5⟩; have hbx5 := hr5.bx HF4d.out HNEf.out; have HNE5 := Lib.hid (hr5.ne HG4.out HNEf.out); have HR5 := Lib.hid (HR4d.out.trans hr5); have HB5 := Lib.hid (show base ≤ w5.heap.size from Nat.le_trans HB4.out hr5.gr.size); clear hr5)
          | (go_at_call 37; refine (IH.out base B fs[k].ty _ V5 _ _ K1.out (HBT1.out.later (HR5.out.keep (B := B) (by omega) (fun k hk => Nat.le_trans hB (HOB.out k hk)))) hB HB5.out HR5.out.own HR5.out.lt HL5.out).mono ?_; rintro _ w6 ⟨V6, rfl, hr6⟩; have hbx6 := hr6.bx hbx5 HNE5.out))
      have HR6 := Lib.hid (HR5.out.trans hr6)
      clear hr6 hbx6 hbx5
      go_wp2
      go_roundw
      case rel => exact ⟨k + 1, V6, _, by omega, rfl, by go_num, K7.out, HR6.out⟩
      case measure => simp [intOf]; omega
    · obtain rfl : k = fs.length := by omega
      have hcl := HCL.out
      rw [List.drop_length] at hcl
      have ha := hcl.all
      rw [lbf, List.append_nil] at ha
      have HA := Lib.hid ha
      clear hcl ha
      go_wp2
      go_ret
      exact ⟨_, rfl, by rw [← HA.out]; exact HR.out⟩

attribute [local go_sem ↓] Go.wp_at_zero Go.wp_at_succ

theorem dims_each : ∀ (ds : List Int) (n : Int), dims ds n ≠ 0 → ∀ d ∈ ds, 1 ≤ d ∧ d ≤ 256
  | [], _, _, d, hd => absurd hd (List.not_mem_nil)
  | x :: ds, n, h, d, hd => by
    rw [dims] at h
    split at h
    · exact absurd rfl h
    rename_i hg
    rcases List.mem_cons.mp hd with rfl | hd
    · omega
    · exact dims_each ds _ h d hd
theorem lbd_cons (d : Int) (ds : List Int) : lbd (d :: ds) = digs 2 true (bits64 d) ++ lbd ds := rfl

set_option maxHeartbeats 4000000 in
set_option maxRecDepth 100000 in
theorem lay_arr (d : Nat) (hd : d ≤ 3) (ih : LayOk d) (base B : Nat) (t : Ty) (v V : Value) (bs : List Nat) (w : World) (hc : t.c = 6) (hz : sz (d + 1) t ≠ 0) (ht : TyAt w B t v) (hB : B ≤ base) (hbase : base ≤ w.heap.size)
    (ho : w.ownsRow base 5 1 V bs.length (by8 bs)) (hlt : ∀ y ∈ bs, y < 256) (hl : bs.length + 7000000 * (d + 1) ≤ 140737000000000) :
    Calls Try.prog 37 #[V, v] w (LP base V (bs ++ lb t) w) := by
  obtain ⟨b, hbs, hb0, e, hpr, hbig, hw0, hfn, hd1, hd2, hdm⟩ := sz_arr hc hz
  have hde := dims_each _ _ hdm
  rw [lb_arr hc hbs]
  clear e hz hpr hdm
  revert hc; revert hbs; revert hbig; revert hw0; revert hfn; revert hd1; revert hd2; revert hde
  cases ht with
  | mk c wd bb fs ds bs' ns fA dA bA nA fC dC bC nC fb fo db dO bbb bo nb nO fv bv hf hd' hb' hn hfz hnz hnr hcap hfA hdA hbA hnA hf0 hf1' hf2' hft hd0 hb0' hbt hn0' hn1' =>
  intro hde hd2 hd1 hfn hw0 hbig hbs hc
  obtain rfl : c = 6 := hc
  obtain rfl : bb = false := hbig
  obtain rfl : bs' = [b] := hbs
  obtain rfl : wd = 0 := hw0
  change fs.length + ns.length = 0 at hfn
  change 1 ≤ ds.length at hd1
  change ds.length ≤ 4 at hd2
  change ∀ d ∈ ds, 1 ≤ d ∧ d ≤ 256 at hde
  show Calls _ _ _ _ (LP base V (bs ++ 6 :: (digs 1 true (bits64 ds.length) ++ lbd ds ++ lb b)) w)
  clear hfz hnz hnr hfA hnA hf0 hf1' hf2' hft hn0' hn1'
  have HD0 := Lib.hid hd0
  have HDE := Lib.hid hde
  have HB0 := Lib.hid hb0'
  have HBT := Lib.hid hbt
  have IH := Lib.hid ih
  have HZB := Lib.hid hb0
  clear hd0 hde hb0' hbt ih hb0
  obtain ⟨rfl, hnb⟩ := hbA (by simp)
  obtain ⟨rfl, hnd⟩ := hdA (by omega)
  obtain ⟨A, C, rfl⟩ := own_form ho
  have HBN := Lib.hid (below_new w (.cells #[.int .i64 6, .int .i64 0, .bool false, .slice fA fs.length fC, .slice (some ⟨db, dO, none⟩) ds.length dC, .slice (some ⟨bbb, bo, none⟩) 1 bC, .slice nA ns.length nC] 28))
  have HBX := Lib.hid (Bx.new w 28 #[.int .i64 6, .int .i64 0, .bool false, .slice fA fs.length fC, .slice (some ⟨db, dO, none⟩) ds.length dC, .slice (some ⟨bbb, bo, none⟩) 1 bC, .slice nA ns.length nC])
  have HNE := Lib.hid (show some w.heap.size ≠ (Value.slice A bs.length C).ownBlock from fun e => absurd (ho.lt _ e.symm).2 (Nat.lt_irrefl _))
  have HOB := Lib.hid (fun k hk => (ho.lt k hk).1)
  have HR0 := Lib.hid ((Rl.refl ho hlt).below HBN.out)
  have HLT := Lib.hid hlt
  clear ho hlt
  have hsz := size_alloc w (.cells #[.int .i64 6, .int .i64 0, .bool false, .slice fA fs.length fC, .slice (some ⟨db, dO, none⟩) ds.length dC, .slice (some ⟨bbb, bo, none⟩) 1 bC, .slice nA ns.length nC] 28)
  have HSZ := Lib.hid hsz
  generalize hW0 : w.alloc (.cells #[.int .i64 6, .int .i64 0, .bool false, .slice fA fs.length fC, .slice (some ⟨db, dO, none⟩) ds.length dC, .slice (some ⟨bbb, bo, none⟩) 1 bC, .slice nA ns.length nC] 28) = w0 at *
  have HR1 := Lib.hid (HR0.out.below (below_new _ (.cells (by8 [6]).toArray 5)))
  have hby := Byt.lit w0 [6] (by intro x hx; rw [List.mem_singleton] at hx; omega)
  rw [hsz] at hby
  have HBY := Lib.hid hby
  have HBB := Lib.hid (show base ≤ (w0.alloc (.cells (by8 [6]).toArray 5)).heap.size by rw [size_alloc, hsz]; omega)
  have HBX1 := Lib.hid (HBX.out.later (below_new _ (.cells (by8 [6]).toArray 5)) (by rw [hsz]; exact Nat.lt_succ_self _))
  have HLL := Lib.hid (show bs.length + 1 ≤ 140737488355328 by omega)
  subst hW0
  clear hsz hby
  go_enter Try.func37, Try.ntmps37
  go_wp2_with (at_builtin; refine wp_app rfl (.tmp 11) (.tmp 15) rfl base 1 1 (.slice A bs.length C) bs [6] (some ⟨w.heap.size + 1, 0, none⟩) _ rfl rfl HR1.out.own HLT.out HBY.out HLL.out HBB.out ?_; intro V1 w1 hr1; refine Hid.out ?_)
  have HB1 := Lib.hid (show base ≤ w1.heap.size from Nat.le_trans HBB.out hr1.gr.size)
  have hbx1 := hr1.bx HBX1.out HNE.out
  have b0 := hbx1.cell 0
  have b4 := hbx1.cell 4
  have HNE1 := Lib.hid (hr1.ne (by rw [size_alloc, HSZ.out]; omega) HNE.out)
  have HBXa := Lib.hid hbx1
  have hl1 : (bs ++ [6]).length ≤ 140737488000000 := by rw [List.length_append]; show bs.length + 1 ≤ _; omega
  have hlen1 : (bs ++ [6]).length = bs.length + 1 := by simp
  generalize hqq : bs ++ [6] = l1 at hr1 hl1 hlen1
  have HQ1 := Lib.hid hqq.symm
  have HL1 := Lib.hid hl1
  have HE1 := Lib.hid hlen1
  have HR2 := Lib.hid (HR1.out.trans hr1)
  obtain ⟨A1, C1, rfl⟩ := own_form hr1.own
  have HU2 := Lib.hid (show bits64 (ds.length : Int) < 256 ^ 1 by unfold bits64; omega)
  have n11 : 1 ≤ 1 := by omega
  have n18 : 1 ≤ 8 := by omega
  have n12 : 1 ≤ 2 := by omega
  have n28 : 2 ≤ 8 := by omega
  clear hr1 hbx1 hqq hl1 hlen1
  refine go_on ?_
  go_wp2_with (go_at_call 56; refine (dput_any base 1 ds.length (.slice A1 l1.length C1) l1 w1 n11 n18 (by omega) (by omega) HU2.out HL1.out HB1.out HR2.out.own HR2.out.lt).mono ?_)
  rintro _ w3 ⟨V3, rfl, hr3⟩
  have HWx := Lib.hid (show w.heap.size + 1 ≤ w3.heap.size from (hr3.bx HBXa.out HNE1.out).lt)
  have HR3 := Lib.hid (HR2.out.trans hr3)
  have HB3 := Lib.hid (Nat.le_trans HB1.out hr3.gr.size)
  have HNE3 := Lib.hid (hr3.ne HBXa.out.lt HNE1.out)
  have hbx3 := hr3.bx HBXa.out HNE1.out
  have c4 := hbx3.cell 4
  have HBX3 := Lib.hid hbx3
  have hel : (l1 ++ digs 1 true (bits64 ds.length)).length = bs.length + 2 := by rw [List.length_append, digs_len, HE1.out]
  have HEL := Lib.hid hel
  have hto : (l1 ++ digs 1 true (bits64 ds.length)) ++ lbd ds ++ lb b = bs ++ 6 :: (digs 1 true (bits64 ds.length) ++ lbd ds ++ lb b) := by
    rw [HQ1.out]; simp only [List.append_assoc, List.cons_append, List.nil_append]
  generalize bs ++ 6 :: (digs 1 true (bits64 ds.length) ++ lbd ds ++ lb b) = tot at *
  generalize l1 ++ digs 1 true (bits64 ds.length) = l3 at *
  have HTO := Lib.hid hto
  clear hr3 hbx3 hel hto
  clear HR0 HR1 HR2 HBY HBB HBX1 HBX HBN HSZ HLT HLL HBXa HNE1 HB1 HL1 HU2
  go_wp2
  go_loopw [0, 75] (fun x i wr => ∃ (k : Nat) (V' : Value) (ys : List Nat), k ≤ ds.length ∧ x = V' ∧ i = .int .i64 k ∧ ys ++ lbd (ds.drop k) = l3 ++ lbd ds ∧ ys.length = bs.length + 2 + 2 * k ∧ Rl base V3 w3 V' ys wr) (fun _ i _ => ds.length - (intOf i).toNat)
  case atStart => exact ⟨0, V3, l3, Nat.zero_le _, rfl, rfl, rfl, HEL.out, Rl.refl HR3.out.own HR3.out.lt⟩
  case round =>
    clear c4 b0 b4
    obtain ⟨k, V', ys, hk, rfl, rfl, hall, hlen, hr⟩ := hrel
    have HALL := Lib.hid hall
    have HLEN := Lib.hid hlen
    have HR := Lib.hid hr
    clear hall hr
    by_cases hlt3 : k < ds.length
    · have HW := Lib.hid ((HR3.out.trans HR.out).keep (B := B) (by omega) (fun k hk => Nat.le_trans hB (HOB.out k hk)))
      have g0 := (HW.out.cell (p := ⟨db, dO + k, none⟩) hnd).trans (HD0.out k hlt3)
      have hd := HDE.out ds[k] (List.getElem_mem hlt3)
      have hda := hd.1
      have hdb := hd.2
      have HU := Lib.hid (show bits64 ds[k] < 256 ^ 2 by unfold bits64; omega)
      have HLy := Lib.hid (show ys.length ≤ 140737488000000 by omega)
      have HBy := Lib.hid (Nat.le_trans HB3.out HR.out.gr.size)
      have hall := HALL.out
      rw [List.drop_eq_getElem_cons hlt3, lbd_cons, ← List.append_assoc] at hall
      have HALL2 := Lib.hid hall
      clear hall hd HALL hlen
      go_wp2_with (go_at_call 56; refine (dput_any base 2 ds[k] _ ys wr n12 n28 (by omega) (by omega) HU.out HLy.out HBy.out HR.out.own HR.out.lt).mono ?_)
      rintro _ w4 ⟨V4, rfl, hr4⟩
      have HR4 := Lib.hid (HR.out.trans hr4)
      clear hr4
      go_wp2
      go_roundw
      case rel => exact ⟨k + 1, V4, _, by omega, rfl, by go_num, HALL2.out, by rw [List.length_append, digs_len, HLEN.out]; omega, HR4.out⟩
      case measure => simp [intOf]; omega
    · obtain rfl : k = ds.length := by omega
      have hall := HALL.out
      rw [List.drop_length, show lbd ([] : List Int) = [] from rfl, List.append_nil] at hall
      have HTOT := Lib.hid (show ys ++ lb b = tot by rw [hall]; exact HTO.out)
      have HW := Lib.hid ((HR3.out.trans HR.out).keep (B := B) (by omega) (fun k hk => Nat.le_trans hB (HOB.out k hk)))
      have hc := fun o : Nat => HW.out.cell (p := ⟨bbb, o, none⟩) hnb
      have a0 := (hc bo).trans (HB0.out 0 (by simp) 0 (by omega))
      have a1 := (hc (bo + 1)).trans (HB0.out 0 (by simp) 1 (by omega))
      have a2 := (hc (bo + 2)).trans (HB0.out 0 (by simp) 2 (by omega))
      have a3 := (hc (bo + 3)).trans (HB0.out 0 (by simp) 3 (by omega))
      have a4 := (hc (bo + 4)).trans (HB0.out 0 (by simp) 4 (by omega))
      have a5 := (hc (bo + 5)).trans (HB0.out 0 (by simp) 5 (by omega))
      have a6 := (hc (bo + 6)).trans (HB0.out 0 (by simp) 6 (by omega))
      have c5 := (HR.out.bx HBX3.out HNE3.out).cell 5
      have HBT1 := Lib.hid ((HBT.out 0 (by simp)).later HW.out)
      have HLy := Lib.hid (show ys.length + 7000000 * d ≤ 140737000000000 by omega)
      have HBy := Lib.hid (Nat.le_trans HB3.out HR.out.gr.size)
      clear hc hall hlen
      go_wp2_with (go_at_call 37; refine (IH.out base B b _ _ ys wr HZB.out HBT1.out hB HBy.out HR.out.own HR.out.lt HLy.out).mono ?_)
      rintro _ w5 ⟨V5, rfl, hr5⟩
      have HR5 := Lib.hid (HR3.out.trans (HR.out.trans hr5))
      clear hr5
      go_wp2
      go_ret
      exact ⟨_, rfl, by rw [← HTOT.out]; exact HR5.out⟩

attribute [local go_sem ↓] Go.wp_at_zero Go.wp_at_succ

theorem lbm_cons (m : ByteArray × Int) (ns : List (ByteArray × Int)) : lbm (m :: ns) = digs 4 true m.1.size ++ sbytes m.1 ++ digs 8 true (bits64 m.2) ++ lbm ns := rfl
/-- What holds of the members that are still to be laid down. -/
structure MemLeft (b : Ty) (n : Nat) (tot : List Nat) (ms : List (ByteArray × Int)) (ys : List Nat) : Prop where
  ex : ∃ pre, mems b ms pre ≠ 0
  all : ys ++ lbm ms = tot
  len : tot.length ≤ n
theorem MemLeft.step {b : Ty} {n : Nat} {tot : List Nat} {m : ByteArray × Int} {ms : List (ByteArray × Int)} {ys : List Nat} (h : MemLeft b n tot (m :: ms) ys) :
    (1 ≤ m.1.size ∧ m.1.size ≤ 64) ∧ ys.length + m.1.size + 12 ≤ n ∧ MemLeft b n tot ms (ys ++ digs 4 true m.1.size ++ sbytes m.1 ++ digs 8 true (bits64 m.2)) := by
  obtain ⟨pre, hm⟩ := h.ex
  obtain ⟨h1, h2, h3, h4⟩ := mems_cons hm
  have ha := h.all
  have hn := h.len
  rw [lbm_cons] at ha
  refine ⟨nameB_len h1, ?_, ⟨_, h4⟩, ?_, hn⟩
  · rw [← ha] at hn
    simp only [List.length_append, digs_len, sbytes_len] at hn
    omega
  · rw [← ha]; simp only [List.append_assoc]

set_option maxHeartbeats 4000000 in
set_option maxRecDepth 100000 in
theorem lay_enum (d : Nat) (hd : d ≤ 3) (base B : Nat) (t : Ty) (v V : Value) (bs : List Nat) (w : World) (hc : t.c = 7) (hz : sz (d + 1) t ≠ 0) (ht : TyAt w B t v) (hB : B ≤ base) (hbase : base ≤ w.heap.size)
    (ho : w.ownsRow base 5 1 V bs.length (by8 bs)) (hlt : ∀ y ∈ bs, y < 256) (hl : bs.length + 7000000 * (d + 1) ≤ 140737000000000) :
    Calls Try.prog 37 #[V, v] w (LP base V (bs ++ lb t) w) := by
  obtain ⟨b, hbs, hbc, hnum, e, hd1, hbig, hw0, hfn, hn1, hn2, hm⟩ := sz_enum hc hz
  have hi := (numB_iff b).mp hnum
  have hlm := lbm_len _ _ hm
  have hbw : 1 ≤ b.w ∧ b.w ≤ 8 := by omega
  rw [lb_enum hc hbs, lb_num (t := b) (by omega) (by omega) (by omega)]
  obtain ⟨cb, hcb⟩ : ∃ cb : Nat, b.c = cb := ⟨b.c.toNat, by omega⟩
  obtain ⟨wb, hwb⟩ : ∃ wb : Nat, b.w = wb := ⟨b.w.toNat, by omega⟩
  rw [hcb, hwb, Int.toNat_natCast, Int.toNat_natCast]
  clear e hz hd1 hi hnum
  revert hc; revert hbs; revert hbig; revert hw0; revert hfn; revert hn1; revert hn2; revert hm; revert hlm
  cases ht with
  | mk c wd bb fs ds bs' ns fA dA bA nA fC dC bC nC fb fo db dO bbb bo nb nO fv bv hf hd' hb' hn hfz hnz hnr hcap hfA hdA hbA hnA hf0 hf1' hf2' hft hd0 hb0' hbt hn0' hn1' =>
  intro hlm hm hn2 hn1 hfn hw0 hbig hbs hc
  obtain rfl : c = 7 := hc
  obtain rfl : bb = false := hbig
  obtain rfl : bs' = [b] := hbs
  obtain rfl : wd = 0 := hw0
  change fs.length + ds.length = 0 at hfn
  change 1 ≤ ns.length at hn1
  change ns.length ≤ 16 at hn2
  change (lbm ns).length ≤ ns.length * 76 at hlm
  change mems b ns [] ≠ 0 at hm
  show Calls _ _ _ _ (LP base V (bs ++ 7 :: ([cb, wb, if b.big = true then 1 else 0] ++ digs 1 true (bits64 ns.length) ++ lbm ns)) w)
  generalize hY : [cb, wb, if b.big = true then 1 else 0] = y3
  have HY := Lib.hid hY
  have hy3 : y3.length = 3 := by rw [← hY]; rfl
  clear hY
  clear hfz hfA hdA hf0 hf1' hf2' hft hd0
  have HN0 := Lib.hid hn0'
  have HN1 := Lib.hid hn1'
  have HB0 := Lib.hid hb0'
  have HBT := Lib.hid hbt
  have HM := Lib.hid hm
  clear hn0' hn1' hb0' hbt hm
  obtain ⟨rfl, hnb⟩ := hbA (by simp)
  obtain ⟨rfl, hnd⟩ := hnA (by omega)
  obtain ⟨A, C, rfl⟩ := own_form ho
  have HBN := Lib.hid (below_new w (.cells #[.int .i64 7, .int .i64 0, .bool false, .slice fA fs.length fC, .slice dA ds.length dC, .slice (some ⟨bbb, bo, none⟩) 1 bC, .slice (some ⟨nb, nO, none⟩) ns.length nC] 28))
  have HBX := Lib.hid (Bx.new w 28 #[.int .i64 7, .int .i64 0, .bool false, .slice fA fs.length fC, .slice dA ds.length dC, .slice (some ⟨bbb, bo, none⟩) 1 bC, .slice (some ⟨nb, nO, none⟩) ns.length nC])
  have HNE := Lib.hid (show some w.heap.size ≠ (Value.slice A bs.length C).ownBlock from fun e => absurd (ho.lt _ e.symm).2 (Nat.lt_irrefl _))
  have HOB := Lib.hid (fun k hk => (ho.lt k hk).1)
  have HR0 := Lib.hid ((Rl.refl ho hlt).below HBN.out)
  have HLT := Lib.hid hlt
  clear ho hlt
  have hsz := size_alloc w (.cells #[.int .i64 7, .int .i64 0, .bool false, .slice fA fs.length fC, .slice dA ds.length dC, .slice (some ⟨bbb, bo, none⟩) 1 bC, .slice (some ⟨nb, nO, none⟩) ns.length nC] 28)
  have HSZ := Lib.hid hsz
  generalize hW0 : w.alloc (.cells #[.int .i64 7, .int .i64 0, .bool false, .slice fA fs.length fC, .slice dA ds.length dC, .slice (some ⟨bbb, bo, none⟩) 1 bC, .slice (some ⟨nb, nO, none⟩) ns.length nC] 28) = w0 at *
  have HR1 := Lib.hid (HR0.out.below (below_new _ (.cells (by8 [7]).toArray 5)))
  have hby := Byt.lit w0 [7] (by intro x hx; rw [List.mem_singleton] at hx; omega)
  rw [hsz] at hby
  have HBY := Lib.hid hby
  have HBB := Lib.hid (show base ≤ (w0.alloc (.cells (by8 [7]).toArray 5)).heap.size by rw [size_alloc, hsz]; omega)
  have HBX1 := Lib.hid (HBX.out.later (below_new _ (.cells (by8 [7]).toArray 5)) (by rw [hsz]; exact Nat.lt_succ_self _))
  have HLL := Lib.hid (show bs.length + 1 ≤ 140737488355328 by omega)
  subst hW0
  generalize hTT : bs ++ 7 :: (y3 ++ digs 1 true (bits64 ns.length) ++ lbm ns) = tt
  have HTT := Lib.hid hTT
  clear hTT
  have HNR := Lib.hid hnr
  have HY3 := Lib.hid hy3
  clear hy3
  have HCB := Lib.hid hcb
  have HWB := Lib.hid hwb
  have HBC := Lib.hid hbc
  have HBW := Lib.hid hbw
  clear hsz hby hnr hcb hwb hbc hbw
  go_enter Try.func37, Try.ntmps37
  go_wp2_with (at_builtin; refine wp_app rfl (.tmp 11) (.tmp 15) rfl base 1 1 (.slice A bs.length C) bs [7] (some ⟨w.heap.size + 1, 0, none⟩) _ rfl rfl HR1.out.own HLT.out HBY.out HLL.out HBB.out ?_; intro V1 w1 hr1; refine Hid.out ?_)
  have HB1 := Lib.hid (show base ≤ w1.drew.heap.size from Nat.le_trans HBB.out hr1.gr.size)
  have hbx1 := hr1.bx HBX1.out HNE.out
  have b0 := hbx1.cell 0
  have b5 := hbx1.cell 5
  have b6 := hbx1.cell 6
  have HNE1 := Lib.hid (hr1.ne (by rw [size_alloc, HSZ.out]; omega) HNE.out)
  have HBXd := Lib.hid hbx1.drew
  have hl1 : (bs ++ [7]).length ≤ 140737488000000 := by rw [List.length_append]; show bs.length + 1 ≤ _; omega
  have hlen1 : (bs ++ [7]).length = bs.length + 1 := by simp
  generalize hqq : bs ++ [7] = l1 at hr1 hl1 hlen1
  have HQ1 := Lib.hid hqq.symm
  have HL1 := Lib.hid hl1
  have HE1 := Lib.hid hlen1
  have HR2 := Lib.hid (HR1.out.trans hr1)
  have HR2d := Lib.hid (HR2.out.below (Below.refl _ _).drew)
  obtain ⟨A1, C1, rfl⟩ := own_form hr1.own
  have HU2 := Lib.hid (show bits64 (ns.length : Int) < 256 ^ 1 by unfold bits64; omega)
  have n11 : 1 ≤ 1 := by omega
  have n18 : 1 ≤ 8 := by omega
  have n88 : 8 ≤ 8 := by omega
  have hns1 : -9223372036854775808 ≤ (ns.length : Int) := by omega
  have hns2 : (ns.length : Int) ≤ 9223372036854775807 := by omega
  have HW1 := Lib.hid (HR2.out.keep (B := B) (by omega) (fun k hk => Nat.le_trans hB (HOB.out k hk)))
  have hc := fun o : Nat => HW1.out.cell (p := ⟨bbb, o, none⟩) hnb
  have a0 := (hc bo).trans (HB0.out 0 (by simp) 0 (by omega))
  have a1 := (hc (bo + 1)).trans (HB0.out 0 (by simp) 1 (by omega))
  have a2 := (hc (bo + 2)).trans (HB0.out 0 (by simp) 2 (by omega))
  have a3 := (hc (bo + 3)).trans (HB0.out 0 (by simp) 3 (by omega))
  have a4 := (hc (bo + 4)).trans (HB0.out 0 (by simp) 4 (by omega))
  have a5 := (hc (bo + 5)).trans (HB0.out 0 (by simp) 5 (by omega))
  have a6 := (hc (bo + 6)).trans (HB0.out 0 (by simp) 6 (by omega))
  have hbt := HBT.out 0 (by simp)
  rw [show [b][0] = b from rfl] at hbt
  obtain ⟨fA', dA', bA', nA', fC', dC', bC', nC', e0, e1, e2, e3, e4, e5, e6⟩ := hbt.cells
  rw [e0, HCB.out] at a0
  rw [e1, HWB.out] at a1
  rw [e2] at a2
  rw [e3] at a3
  rw [e4] at a4
  rw [e5] at a5
  rw [e6] at a6
  have HKB := Lib.hid (show ∀ (V' : Value) (w' : World) (ys : List Nat), Rl base (.slice A1 l1.length C1) w1.drew V' ys w' → ∀ o : Nat, w'.cell? ⟨bbb, o, none⟩ = w1.cell? ⟨bbb, o, none⟩ from
    fun V' w' ys h o => (h.keep (B := B) (by have := HB1.out; omega) (fun k hk => by have := (HR2.out.own.lt k hk).1; omega)).cell (p := ⟨bbb, o, none⟩) hnb)
  have hcb1 : 1 ≤ cb := by have := HCB.out; have := HBC.out; omega
  have hcb4 : cb ≤ 4 := by have := HCB.out; have := HBC.out; omega
  have hwb8 : wb ≤ 8 := by have := HWB.out; have := HBW.out; omega
  have HTOT := Lib.hid (show l1 ++ y3 ++ digs 1 true (bits64 ns.length) ++ lbm ns = tt by
    rw [← HTT.out, HQ1.out]; simp only [List.append_assoc, List.cons_append, List.nil_append])
  have hy3 := HY3.out
  have HL2 := Lib.hid (show (l1 ++ y3).length ≤ 140737488000000 by rw [List.length_append, hy3, HE1.out]; omega)
  have HE2 := Lib.hid (show (l1 ++ y3 ++ digs 1 true (bits64 ns.length)).length = bs.length + 5 by rw [List.length_append, List.length_append, hy3, HE1.out, digs_len])
  clear hr1 hbx1 hqq hl1 hlen1 hc e0 e1 e2 e3 e4 e5 e6 hbt hy3 HTT
  refine go_on ?_
  go_wp2
  go_region_held3 (fun w' => w'.cell? ⟨w.heap.size, 5, none⟩ = some (.slice (some ⟨bbb, bo, none⟩) 1 bC) ∧ w'.cell? ⟨w.heap.size, 6, none⟩ = some (.slice (some ⟨nb, nO, none⟩) ns.length nC) ∧
      w'.cell? ⟨bbb, bo, none⟩ = some (.int .i64 cb) ∧ w'.cell? ⟨bbb, bo + 1, none⟩ = some (.int .i64 wb) ∧ w'.cell? ⟨bbb, bo + 2, none⟩ = some (.bool b.big) ∧ w'.cell? ⟨bbb, bo + 3, none⟩ = some (.slice fA' b.fs.length fC') ∧
      w'.cell? ⟨bbb, bo + 4, none⟩ = some (.slice dA' b.ds.length dC') ∧ w'.cell? ⟨bbb, bo + 5, none⟩ = some (.slice bA' b.bs.length bC') ∧ w'.cell? ⟨bbb, bo + 6, none⟩ = some (.slice nA' b.ns.length nC'))
    (first
      | (exact ⟨hbx3.cell 5, hbx3.cell 6, (hk3 _).trans a0, (hk3 _).trans a1, (hk3 _).trans a2, (hk3 _).trans a3, (hk3 _).trans a4, (hk3 _).trans a5, (hk3 _).trans a6⟩)
      | (exact ⟨hbx2.cell 5, hbx2.cell 6, (hk2 _).trans a0, (hk2 _).trans a1, (hk2 _).trans a2, (hk2 _).trans a3, (hk2 _).trans a4, (hk2 _).trans a5, (hk2 _).trans a6⟩)
      | go_keep)
    (first
      | (go_at_call 37; refine (lay_num base cb wb b.big _ _ _ _ (.slice A1 l1.length C1) l1 _ hcb1 hcb4 hwb8 HL1.out HB1.out HR2d.out.own HR2d.out.lt ⟨_, _, _, rfl⟩ ⟨_, _, _, rfl⟩ ⟨_, _, _, rfl⟩ ⟨_, _, _, rfl⟩).mono ?_; rintro _ w2 ⟨V2, rfl, hr2⟩; rw [HY.out] at hr2; have hbx2 := hr2.bx HBXd.out HNE1.out; have hk2 := HKB.out _ _ _ hr2; have HNE2 := Lib.hid (hr2.ne HBXd.out.lt HNE1.out); have HB2 := Lib.hid (show base ≤ w2.heap.size from Nat.le_trans HB1.out hr2.gr.size); have HRa := Lib.hid hr2; clear hr2)
      | (go_at_call 56; refine (dput_any base 1 ns.length V2 (l1 ++ y3) _ n11 n18 hns1 hns2 HU2.out HL2.out HB2.out HRa.out.own HRa.out.lt).mono ?_; rintro _ w3 ⟨V3, rfl, hr3⟩; have hbx3 := hr3.bx hbx2 HNE2.out; have hk3 := HKB.out _ _ _ (HRa.out.trans hr3)))
  have HR3 := Lib.hid (HR2d.out.trans (HRa.out.trans hr3))
  have HB3 := Lib.hid (Nat.le_trans HB2.out hr3.gr.size)
  have c6 := hbx3.cell 6
  have hLL : MemLeft b (bs.length + 2000) tt ns (l1 ++ y3 ++ digs 1 true (bits64 ns.length)) := by
    refine ⟨⟨[], HM.out⟩, HTOT.out, ?_⟩
    rw [← HTOT.out, List.length_append, HE2.out]
    omega
  clear HTOT
  generalize l1 ++ y3 ++ digs 1 true (bits64 ns.length) = l3 at *
  have HLL2 := Lib.hid hLL
  clear hr3 hbx3 hbx2 hk2 hk3 hLL a0 a1 a2 a3 a4 a5 a6 b0 b5 b6
  clear HKB HRa HR2d HR2 HR1 HR0 HBXd HBX1 HBX HBY HBB HBN HSZ HLT HLL HNE1 HNE2 HB1 HB2 HL1 HL2 HU2
  go_wp2
  go_loopw [0, 104] (fun x i wr => ∃ (k : Nat) (V' : Value) (ys : List Nat), k ≤ ns.length ∧ x = V' ∧ i = .int .i64 k ∧ MemLeft b (bs.length + 2000) tt (ns.drop k) ys ∧ Rl base (.slice A bs.length C) w V' ys wr) (fun _ i _ => ns.length - (intOf i).toNat)
  case atStart => exact ⟨0, V3, l3, Nat.zero_le _, rfl, rfl, HLL2.out, HR3.out⟩
  case round =>
    clear c6 HR3 HLL2
    obtain ⟨k, V', ys, hk, rfl, rfl, hcl, hr⟩ := hrel
    have HCL := Lib.hid hcl
    have HR := Lib.hid hr
    clear hcl hr
    by_cases hlt3 : k < ns.length
    · have HW := Lib.hid (HR.out.keep (B := B) (by omega) (fun k hk => Nat.le_trans hB (HOB.out k hk)))
      have g0 := (HW.out.cell (p := ⟨nb, nO + k * 2, none⟩) hnd).trans (HN0.out k hlt3)
      have g1 := (HW.out.cell (p := ⟨nb, nO + k * 2 + 1, none⟩) hnd).trans (HN1.out k hlt3)
      have hrr := HNR.out ns[k] (List.getElem_mem hlt3)
      have hr0 := hrr.1
      have hr1 := hrr.2
      have hcl := HCL.out
      rw [List.drop_eq_getElem_cons hlt3] at hcl
      obtain ⟨⟨k2, k3⟩, k4, k7⟩ := hcl.step
      have K7 := Lib.hid k7
      clear hcl k7 HCL hrr
      obtain ⟨A2, C2, rfl⟩ := own_form HR.out.own
      have hwm := below_new wr (.cells (#[.string ns[k].1, .int .i64 ns[k].2]) 68)
      have hbx := Bx.new wr 68 #[.string ns[k].1, .int .i64 ns[k].2]
      have hsm := size_alloc wr (.cells (#[.string ns[k].1, .int .i64 ns[k].2]) 68)
      obtain ⟨wc, Cc, hcv, hby, hbw, hsz⟩ := conv_string (wr.alloc (.cells (#[.string ns[k].1, .int .i64 ns[k].2]) 68)) ns[k].1
      rw [hsm] at hcv hby hsz
      have hszr := HR.out.gr.size
      have hm1 : ys.length ≤ 140737488000000 := by omega
      have hm2 : ns[k].1.size ≤ 65536 := by omega
      have hrc := (HR.out.below hwm).below hbw
      have HRc := Lib.hid hrc
      have HBc := Lib.hid (Byt.of_own hrc.own hrc.lt)
      have HBn := Lib.hid (hby.up (show wr.heap.size + 1 + 1 ≤ wc.heap.size by omega))
      have HFc := Lib.hid (hbx.later hbw (by rw [hsm]; exact Nat.lt_succ_self _))
      have HSC := Lib.hid hsz
      clear hwm hbx hsm hby hbw hsz hrc
      go_wp2_with (go_at_call 57; refine (putBytes_ok ys.length C2 ns[k].1.size Cc A2 (some ⟨wr.heap.size + 1, 0, none⟩) ys (sbytes ns[k].1) wc hm2 hm1 HBc.out HBn.out).mono ?_)
      rintro _ w4 ⟨V4, rfl, ho4, hb4⟩
      have hl4 : (ys ++ digs 4 true ns[k].1.size ++ sbytes ns[k].1).length = ys.length + 4 + ns[k].1.size := by simp only [List.length_append, digs_len, sbytes_len]
      have HL4 := Lib.hid (show (ys ++ digs 4 true ns[k].1.size ++ sbytes ns[k].1).length ≤ 140737488000000 by omega)
      rw [← hl4] at ho4
      have hr4 := HRc.out.new hb4 ho4 (lt_app (lt_app HRc.out.lt (digs_lt _ _ _)) (sbytes_lt _)) (by have := HSC.out; omega) (by omega)
      have hf4 := HFc.out.later hb4 HFc.out.lt
      have hs4 := hb4.size
      generalize hq4 : ys ++ digs 4 true ns[k].1.size ++ sbytes ns[k].1 = l4 at hr4 HL4 K7
      have HR4 := Lib.hid hr4
      have f1 := hf4.cell 1
      have HB4 := Lib.hid (show base ≤ w4.heap.size by have := HSC.out; omega)
      have HUp := Lib.hid (show bits64 ns[k].2 < 256 ^ 8 by unfold bits64; omega)
      clear hl4 ho4 hb4 hr4 hf4 HFc HBn HBc hcv hq4 g0 g1
      go_wp2_with (go_at_call 56; refine (dput_any base 8 ns[k].2 V4 l4 w4 n18 n88 hr0 hr1 HUp.out HL4.out HB4.out HR4.out.own HR4.out.lt).mono ?_)
      rintro _ w5 ⟨V5, rfl, hr5⟩
      have HR5 := Lib.hid (HR4.out.trans hr5)
      clear hr5
      go_wp2
      go_roundw
      case rel => exact ⟨k + 1, V5, _, by omega, rfl, by go_num, K7.out, HR5.out⟩
      case measure => simp [intOf]; omega
    · obtain rfl : k = ns.length := by omega
      have hcl := HCL.out
      rw [List.drop_length] at hcl
      have ha := hcl.all
      rw [show lbm ([] : List (ByteArray × Int)) = [] from rfl, List.append_nil] at ha
      have HA := Lib.hid ha
      clear hcl ha
      go_wp2
      go_ret
      exact ⟨_, rfl, by rw [← HA.out]; exact HR.out⟩

theorem lay_any (d : Nat) : d ≤ 4 → LayOk d := by
  induction d with
  | zero => intro _ base B t v V bs w hz; exact absurd rfl hz
  | succ d ih =>
    intro hd base B t v V bs w hz ht hB hbase ho hlt hl
    have ih := ih (by omega)
    by_cases h5 : t.c = 5
    · exact lay_comp d (by omega) ih base B t v V bs w h5 hz ht hB hbase ho hlt hl
    by_cases h6 : t.c = 6
    · exact lay_arr d (by omega) ih base B t v V bs w h6 hz ht hB hbase ho hlt hl
    by_cases h7 : t.c = 7
    · exact lay_enum d (by omega) base B t v V bs w h7 hz ht hB hbase ho hlt hl
    obtain ⟨hn, e⟩ := sz_nums h5 h6 h7 hz
    have hi := (numB_iff t).mp hn
    obtain ⟨fA, dA, bA, nA, fC, dC, bC, nC, rfl⟩ := ht.shape
    rw [lb_num h5 h6 h7]
    have e1 : t.c = ((t.c.toNat : Nat) : Int) := by omega
    have e2 : t.w = ((t.w.toNat : Nat) : Int) := by omega
    have h := lay_num base t.c.toNat t.w.toNat t.big (.slice fA t.fs.length fC) (.slice dA t.ds.length dC) (.slice bA t.bs.length bC) (.slice nA t.ns.length nC) V bs w (by omega) (by omega) (by omega) (by omega) hbase ho hlt ⟨_, _, _, rfl⟩ ⟨_, _, _, rfl⟩ ⟨_, _, _, rfl⟩ ⟨_, _, _, rfl⟩
    rw [← e1, ← e2] at h
    exact h

set_option maxHeartbeats 2000000 in
set_option maxRecDepth 100000 in
theorem bytes_no (t : Ty) (v : Value) (w : World) (ht : TyAt w w.heap.size t v) (hz : sz 4 t = 0) :
    Calls Try.prog 21 #[v] w fun e w' => e = .returned (.tuple #[.slice none 0 0, .int .i64 15]) ∧ Below w.heap.size w w' := by
  obtain ⟨fA, dA, bA, nA, fC, dC, bC, nC, rfl⟩ := ht.shape
  have HT := Lib.hid ((ht.later (below_new w (.cells #[.int .i64 t.c, .int .i64 t.w, .bool t.big, .slice fA t.fs.length fC, .slice dA t.ds.length dC, .slice bA t.bs.length bC, .slice nA t.ns.length nC] 28))).up (below_new w (.cells #[.int .i64 t.c, .int .i64 t.w, .bool t.big, .slice fA t.fs.length fC, .slice dA t.ds.length dC, .slice bA t.bs.length bC, .slice nA t.ns.length nC] 28)).size)
  have HE := Lib.hid (show errV t = 15 from if_pos hz)
  clear ht hz
  go_enter Try.func21, Try.ntmps21
  go_wp2_with (go_at_call 17; refine (check_any t _ _ ?_).mono ?_)
  · exact HT.out
  rintro _ w2 ⟨he, hb2⟩
  rw [HE.out] at he
  subst he
  have HW := Lib.hid (below_more (below_new _ _) hb2)
  clear hb2
  go_wp2
  go_ret2
  exact ⟨rfl, HW.out⟩

set_option maxHeartbeats 2000000 in
set_option maxRecDepth 100000 in
theorem bytes_yes (t : Ty) (v : Value) (w : World) (ht : TyAt w w.heap.size t v) (hz : sz 4 t ≠ 0) :
    Calls Try.prog 21 #[v] w fun e w' => ∃ V, e = .returned (.tuple #[V, .int .i64 0]) ∧ w'.ownsRow w.heap.size 5 1 V (lb t).length (by8 (lb t)) ∧ (∀ x ∈ lb t, x < 256) ∧ Below w.heap.size w w' := by
  obtain ⟨fA, dA, bA, nA, fC, dC, bC, nC, rfl⟩ := ht.shape
  have HT0 := Lib.hid ht
  have HT := Lib.hid ((ht.later (below_new w (.cells #[.int .i64 t.c, .int .i64 t.w, .bool t.big, .slice fA t.fs.length fC, .slice dA t.ds.length dC, .slice bA t.bs.length bC, .slice nA t.ns.length nC] 28))).up (below_new w (.cells #[.int .i64 t.c, .int .i64 t.w, .bool t.big, .slice fA t.fs.length fC, .slice dA t.ds.length dC, .slice bA t.bs.length bC, .slice nA t.ns.length nC] 28)).size)
  have HBX := Lib.hid (Bx.new w 28 #[.int .i64 t.c, .int .i64 t.w, .bool t.big, .slice fA t.fs.length fC, .slice dA t.ds.length dC, .slice bA t.bs.length bC, .slice nA t.ns.length nC])
  have HE := Lib.hid (show errV t = 0 from if_neg hz)
  have HZ := Lib.hid hz
  clear ht hz
  go_enter Try.func21, Try.ntmps21
  go_wp2_with (go_at_call 17; refine (check_any t _ _ ?_).mono ?_)
  · exact HT.out
  rintro _ w2 ⟨he, hb2⟩
  rw [HE.out] at he
  subst he
  have HW := Lib.hid (below_more (below_new _ _) hb2)
  have HBX2 := Lib.hid (HBX.out.later hb2 (by simp))
  have c0 := HBX2.out.cell 0
  have c1 := HBX2.out.cell 1
  have c2 := HBX2.out.cell 2
  have c3 := HBX2.out.cell 3
  have c4 := HBX2.out.cell 4
  have c5 := HBX2.out.cell 5
  have c6 := HBX2.out.cell 6
  have hlt := HBX2.out.lt
  clear hb2 HBX HT
  go_wp2_with (go_at_call 37; refine (lay_any 4 (by omega) w2.heap.size w.heap.size t _ (.slice none 0 0) [] w2 HZ.out ?_ (by omega) (Nat.le_refl _) (World.ownsRow_nil _ _ _ _) (fun y hy => absurd hy (List.not_mem_nil)) (by simp)).mono ?_)
  · exact HT0.out.later HW.out
  rintro _ w3 ⟨V, rfl, hr⟩
  rw [List.nil_append] at hr
  have HR := Lib.hid hr
  have HW3 := Lib.hid (HW.out.trans (hr.keep (B := w.heap.size) HW.out.size (fun k hk => by cases hk)))
  clear hr
  go_wp2
  go_ret2
  exact ⟨V, rfl, own_base HR.out.own HW.out.size, HR.out.lt, HW3.out⟩
end Go.Proofs.Ytbdhihgokkcmfaa.Ty9
