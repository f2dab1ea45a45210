/- slabvaultref09.turned: the type in one order, its dimensions and names where they were. -/
import Derived.Test.YtbdhihgokkcmfaaEf
import Derived.Test.YtbdhihgokkcmfaaGa
namespace Go.Proofs.Ytbdhihgokkcmfaa.Ty9
set_option linter.unusedVariables false
set_option linter.unusedSimpArgs false
open Go.RowKit Wd

def T0 (db nb : Nat) (ds : List Int) (ns : List (ByteArray × Int)) (g : Nat) : Prop := (0 < ds.length ∧ g = db) ∨ (0 < ns.length ∧ g = nb)
def U0 (db nb : Nat) (dA nA : Option Addr) (ds : List Int) (ns : List (ByteArray × Int)) (w' : World) : Prop := RowAt (T0 db nb ds ns) dA (nums ds) w' ∧ RowAt (T0 db nb ds ns) nA (mem2 ns) w'
theorem turned_lp {B : Nat} {w wr : World} {X Y : Array Value} {dA nA : Option Addr} {db dO nb nO : Nat} {ds : List Int} {ns : List (ByteArray × Int)} (hB : B ≤ w.heap.size) (be : Below w.heap.size w wr) (b1 : Bx wr w.heap.size 28 X)
    (b2 : Bx wr (w.heap.size + 1) 28 #[.int .i64 0, .int .i64 0, .bool false, .slice none 0 0, .slice none 0 0, .slice none 0 0, .slice none 0 0]) (b3 : Bx wr (w.heap.size + 1 + 1) 28 Y)
    (hdA : 0 < ds.length → dA = some ⟨db, dO, none⟩ ∧ db < B) (hnA : 0 < ns.length → nA = some ⟨nb, nO, none⟩ ∧ nb < B) (hd0 : ∀ i (h : i < ds.length), w.cell? ⟨db, dO + i, none⟩ = some (.int .i64 ds[i]))
    (hn0 : ∀ i (h : i < ns.length), w.cell? ⟨nb, nO + i * 2, none⟩ = some (.string ns[i].1)) (hn1 : ∀ i (h : i < ns.length), w.cell? ⟨nb, nO + i * 2 + 1, none⟩ = some (.int .i64 ns[i].2)) (e : TypeId) (size : Nat) (hd : Nat → List Value) (ts : List Ty) :
    Lp B w wr X Y (T0 db nb ds ns) (U0 db nb dA nA ds ns) e size (.slice none 0 0) hd ts [] := by
  have hs := be.size
  refine ⟨hB, be, b1, b2, b3, fun g hg => ?_, fun w' hw => ⟨fun h0 => ?_, fun h0 => ?_⟩, by simpa using World.ownsRow_nil wr (w.heap.size + 1 + 1 + 1) e size, fun g _ e => by simp [Value.ownBlock] at e, fun i _ hi' => absurd hi' (Nat.not_lt_zero _)⟩
  · rcases hg with ⟨h0, rfl⟩ | ⟨h0, rfl⟩
    · have := hdA h0; omega
    · have := hnA h0; omega
  · have h1 : 0 < ds.length := by rw [nums_len] at h0; omega
    obtain ⟨q1, q2⟩ := hdA h1
    have hs : T0 db nb ds ns db := .inl ⟨h1, rfl⟩
    refine ⟨db, dO, q1, hs, fun j u hu => ?_⟩
    obtain ⟨hj, rfl⟩ := nums_at hu
    exact (World.cell?_of_block (w := wr) (a := ⟨db, _, none⟩) (hw db hs)).trans ((be.cell (p := ⟨db, _, none⟩) (by show db < w.heap.size; omega)).trans (hd0 j hj))
  · have h1 : 0 < ns.length := by rw [mem2_len] at h0; omega
    obtain ⟨q1, q2⟩ := hnA h1
    have hs : T0 db nb ds ns nb := .inr ⟨h1, rfl⟩
    refine ⟨nb, nO, q1, hs, fun j u hu => ?_⟩
    have key : ∀ j', w'.cell? ⟨nb, j', none⟩ = w.cell? ⟨nb, j', none⟩ := fun j' => (World.cell?_of_block (w := wr) (a := ⟨nb, j', none⟩) (hw nb hs)).trans (be.cell (p := ⟨nb, j', none⟩) (by show nb < w.heap.size; omega))
    rw [key]
    obtain ⟨i, hi, ⟨rfl, rfl⟩ | ⟨rfl, rfl⟩⟩ := mem2_at hu
    · exact hn0 i hi
    · exact hn1 i hi

set_option maxHeartbeats 4000000 in
set_option maxRecDepth 100000 in
theorem turned_any (bg : Bool) (t : Ty) : Fit t → ∀ (v : Value) (B : Nat) (w : World), B ≤ w.heap.size → TyAt w B t v →
    Calls Try.prog 40 #[v, .bool bg] w fun e w' => ∃ u S, e = .returned u ∧ Lies S w' (tn bg t) u ∧ (∀ g, S g → w.heap.size ≤ g ∨ g < B) ∧ Below w.heap.size w w' := by
  induction t using Ty.ind with
  | h c wd b fs ds bs ns ihf ihb =>
    intro hfit v B w hB ht
    rw [tn_mk]
    cases hfit with
    | mk _ _ _ _ _ _ _ kf kd kb kn k1 k2 =>
    have hrb : reachBytes ≤ 140737488355328 := by decide
    rw [bytes8] at kd
    rw [bytes24] at kn
    have KF := Lib.hid kf
    have KB := Lib.hid kb
    have K1 := Lib.hid k1
    have K2 := Lib.hid k2
    have IF := Lib.hid ihf
    have IB := Lib.hid ihb
    cases ht with
    | mk _ _ _ _ _ _ _ fA dA bA nA fC dC bC nC fb fo db dO bb bo nb nO fv bv hf hd hb hn hfz hnz hnr hcap hfA hdA hbA hnA hf0 hf1 hf2 hft hd0 hb0 hbt hn0' hn1' =>
    have HF0 := Lib.hid hf0
    have HF1 := Lib.hid hf1
    have HF2 := Lib.hid hf2
    have HFT := Lib.hid hft
    have HB0 := Lib.hid hb0
    have HBT := Lib.hid hbt
    have HFA := Lib.hid hfA
    have HBA := Lib.hid hbA
    have hx1 := ((Bx.new w 28 #[.int .i64 c, .int .i64 wd, .bool b, .slice fA fs.length fC, .slice dA ds.length dC, .slice bA bs.length bC, .slice nA ns.length nC]).later (below_new (w.alloc (.cells #[.int .i64 c, .int .i64 wd, .bool b, .slice fA fs.length fC, .slice dA ds.length dC, .slice bA bs.length bC, .slice nA ns.length nC] 28)) (.cells #[.int .i64 0, .int .i64 0, .bool false, .slice none 0 0, .slice none 0 0, .slice none 0 0, .slice none 0 0] 28)) (by simp)).later (below_new ((w.alloc (.cells #[.int .i64 c, .int .i64 wd, .bool b, .slice fA fs.length fC, .slice dA ds.length dC, .slice bA bs.length bC, .slice nA ns.length nC] 28)).alloc (.cells #[.int .i64 0, .int .i64 0, .bool false, .slice none 0 0, .slice none 0 0, .slice none 0 0, .slice none 0 0] 28)) (.cells #[.int .i64 c, .int .i64 wd, .bool b, .slice none 0 0, .slice dA ds.length dC, .slice none 0 0, .slice nA ns.length nC] 28)) (by first | (simp; omega) | simp)
    have hx2 := (Bx.new (w.alloc (.cells #[.int .i64 c, .int .i64 wd, .bool b, .slice fA fs.length fC, .slice dA ds.length dC, .slice bA bs.length bC, .slice nA ns.length nC] 28)) 28 #[.int .i64 0, .int .i64 0, .bool false, .slice none 0 0, .slice none 0 0, .slice none 0 0, .slice none 0 0]).later (below_new ((w.alloc (.cells #[.int .i64 c, .int .i64 wd, .bool b, .slice fA fs.length fC, .slice dA ds.length dC, .slice bA bs.length bC, .slice nA ns.length nC] 28)).alloc (.cells #[.int .i64 0, .int .i64 0, .bool false, .slice none 0 0, .slice none 0 0, .slice none 0 0, .slice none 0 0] 28)) (.cells #[.int .i64 c, .int .i64 wd, .bool b, .slice none 0 0, .slice dA ds.length dC, .slice none 0 0, .slice nA ns.length nC] 28)) (by simp)
    rw [size_alloc] at hx2
    have hx3 := Bx.new ((w.alloc (.cells #[.int .i64 c, .int .i64 wd, .bool b, .slice fA fs.length fC, .slice dA ds.length dC, .slice bA bs.length bC, .slice nA ns.length nC] 28)).alloc (.cells #[.int .i64 0, .int .i64 0, .bool false, .slice none 0 0, .slice none 0 0, .slice none 0 0, .slice none 0 0] 28)) 28 #[.int .i64 c, .int .i64 wd, .bool b, .slice none 0 0, .slice dA ds.length dC, .slice none 0 0, .slice nA ns.length nC]
    rw [size_alloc, size_alloc] at hx3
    have HST := Lib.hid (turned_lp hB (below_more (below_more (below_new w _) (below_new (w.alloc (.cells #[.int .i64 c, .int .i64 wd, .bool b, .slice fA fs.length fC, .slice dA ds.length dC, .slice bA bs.length bC, .slice nA ns.length nC] 28)) _)) (below_new ((w.alloc (.cells #[.int .i64 c, .int .i64 wd, .bool b, .slice fA fs.length fC, .slice dA ds.length dC, .slice bA bs.length bC, .slice nA ns.length nC] 28)).alloc (.cells #[.int .i64 0, .int .i64 0, .bool false, .slice none 0 0, .slice none 0 0, .slice none 0 0, .slice none 0 0] 28)) _)) hx1 hx2 hx3 hdA hnA hd0 hn0' hn1' 66 9 (hdF (fs.map (tnF bg))) ((fs.map (tnF bg)).map Fd.ty))
    clear hx1 hx2 hx3 hf0 hf1 hf2 hft hd0 hb0 hbt hn0' hn1' hfA hdA hbA hnA ihf ihb
    have HNB := Lib.hid hnz
    have HNR := Lib.hid hnr
    have HFZ := Lib.hid hfz
    clear hnz hnr hfz kf kd kb kn k1 k2 hrb
    generalize hbb : (if c ≤ 4 then bg else b) = b'
    have HBB := Lib.hid hbb
    clear hbb
    go_enter Try.func40, Try.ntmps40
    go_upto_region 3 with fail
    trace_state
    obtain ⟨i0, hi0, hz0, hz1, hz2⟩ := info_parts field_info
    obtain ⟨j0, hj0, hj1, hj2, hj3⟩ := info_parts type_info
    go_wp2
    go_loopw [6] (fun i wr => ∃ (k : Nat) (V : Value) (rs : List (List Value)) (S : Nat → Prop), rs.length = k ∧ k ≤ fs.length ∧ i = .int .i64 k ∧
       Lp B w wr #[.int .i64 c, .int .i64 wd, .bool b, .slice fA fs.length fC, .slice dA ds.length dC, .slice bA bs.length bC, .slice nA ns.length nC] #[.int .i64 c, .int .i64 wd, .bool b, V, .slice dA ds.length dC, .slice none 0 0, .slice nA ns.length nC] S (U0 db nb dA nA ds ns) 66 9 V (hdF (fs.map (tnF bg))) ((fs.map (tnF bg)).map Fd.ty) rs ∧
       ∀ g, T0 db nb ds ns g → S g) (fun i _ => fs.length - (intOf i).toNat)
    case atStart => exact ⟨0, _, [], _, rfl, Nat.zero_le _, rfl, HST.out, fun g h => h⟩
    case round =>
      clear HST
      obtain ⟨k, V, rs, S, hkr, hk, rfl, hlp, hsub⟩ := hrel
      have HLP := Lib.hid hlp
      have HSUB := Lib.hid hsub
      have HKR := Lib.hid hkr
      have c3 := hlp.b1.cell 3
      have c5 := hlp.b1.cell 5
      clear hlp hsub hkr
      by_cases hlt : k < fs.length
      · obtain ⟨rfl, hnb⟩ := HFA.out (by omega)
        have hc := fun o : Nat => HLP.out.be.cell (p := ⟨fb, o, none⟩) (Nat.lt_of_lt_of_le hnb hB)
        have g0 := (hc (fo + k * 9)).trans (HF0.out k hlt)
        have g1 := (hc (fo + k * 9 + 1)).trans (HF1.out k hlt)
        have a0 : wr.cell? ⟨fb, fo + k * 9 + 2, none⟩ = some (fv k 0) := (hc _).trans (HF2.out k hlt 0 (by omega))
        have a1 := (hc (fo + k * 9 + 2 + 1)).trans (HF2.out k hlt 1 (by omega))
        have a2 := (hc (fo + k * 9 + 2 + 2)).trans (HF2.out k hlt 2 (by omega))
        have a3 := (hc (fo + k * 9 + 2 + 3)).trans (HF2.out k hlt 3 (by omega))
        have a4 := (hc (fo + k * 9 + 2 + 4)).trans (HF2.out k hlt 4 (by omega))
        have a5 := (hc (fo + k * 9 + 2 + 5)).trans (HF2.out k hlt 5 (by omega))
        have a6 := (hc (fo + k * 9 + 2 + 6)).trans (HF2.out k hlt 6 (by omega))
        clear hc
        have hbt := HFT.out k hlt
        have hm := List.getElem_mem hlt
        generalize hfk : fs[k] = fk at g0 g1 hbt hm
        have HFK := Lib.hid (show fs[k]? = some fk by rw [List.getElem?_eq_getElem hlt, hfk])
        clear hfk
        obtain ⟨fA', dA', bA', nA', fC', dC', bC', nC', e0, e1, e2, e3, e4, e5, e6⟩ := hbt.cells
        rw [e0] at a0 hbt
        rw [e1] at a1 hbt
        rw [e2] at a2 hbt
        rw [e3] at a3 hbt
        rw [e4] at a4 hbt
        rw [e5] at a5 hbt
        rw [e6] at a6 hbt
        have HBT1 := Lib.hid (hbt.later (HLP.out.be.mono hB))
        have HBS := Lib.hid HLP.out.be.size
        clear e0 e1 e2 e3 e4 e5 e6 hbt
        have HNB := Lib.hid (below_new wr (.cells (#[.string fk.name, .int .i64 fk.pos, .int .i64 fk.ty.c, .int .i64 fk.ty.w, .bool fk.ty.big, .slice fA' fk.ty.fs.length fC', .slice dA' fk.ty.ds.length dC', .slice bA' fk.ty.bs.length bC', .slice nA' fk.ty.ns.length nC']) 66))
        go_wp2_with (go_at_call 40; refine (IF.out fk hm (K1.out _ hm) _ B _ (Nat.le_trans hB (Nat.le_trans HBS.out HNB.out.size)) (HBT1.out.later (HNB.out.mono (Nat.le_trans hB HBS.out)))).mono ?_)
        first
          | rintro _ w2 u rfl S' hL hS' hb2
          | rintro _ w2 ⟨u, S', rfl, hL, hS', hb2⟩
        obtain ⟨T, hT⟩ : ∃ T, tn bg fk.ty = T := ⟨_, rfl⟩
        have HT := Lib.hid hT
        rw [hT] at hL
        clear hT
        obtain ⟨fA9, dA9, bA9, nA9, fC9, dC9, bC9, nC9, rfl⟩ := hL.here.shape
        have hsm := size_alloc wr (.cells (#[.string fk.name, .int .i64 fk.pos, .int .i64 fk.ty.c, .int .i64 fk.ty.w, .bool fk.ty.big, .slice fA' fk.ty.fs.length fC', .slice dA' fk.ty.ds.length dC', .slice bA' fk.ty.bs.length bC', .slice nA' fk.ty.ns.length nC']) 66)
        have HS' := Lib.hid (show ∀ g, S' g → wr.heap.size < g ∨ g < B from fun g hg => by first | exact hS' g hg | (have := hS' g hg; rw [hsm] at this; exact this) | (have := hS' g hg; simp at this; omega))
        have HL := Lib.hid hL
        have hb3 := below_succ hb2
        have hfx := (Bx.new wr 66 #[.string fk.name, .int .i64 fk.pos, .int .i64 fk.ty.c, .int .i64 fk.ty.w, .bool fk.ty.big, .slice fA' fk.ty.fs.length fC', .slice dA' fk.ty.ds.length dC', .slice bA' fk.ty.bs.length bC', .slice nA' fk.ty.ns.length nC']).later hb3 (by rw [hsm]; exact Nat.lt_succ_self _)
        have HW2 := Lib.hid (below_more HNB.out hb3)
        have x2 : w2.cell? ⟨wr.heap.size, 2, none⟩ = some (.int .i64 fk.ty.c) := hfx.cell 2
        have x3 : w2.cell? ⟨wr.heap.size, 3, none⟩ = some (.int .i64 fk.ty.w) := hfx.cell 3
        have x4 : w2.cell? ⟨wr.heap.size, 4, none⟩ = some (.bool fk.ty.big) := hfx.cell 4
        have x5 : w2.cell? ⟨wr.heap.size, 5, none⟩ = some (.slice fA' fk.ty.fs.length fC') := hfx.cell 5
        have x6 : w2.cell? ⟨wr.heap.size, 6, none⟩ = some (.slice dA' fk.ty.ds.length dC') := hfx.cell 6
        have x7 : w2.cell? ⟨wr.heap.size, 7, none⟩ = some (.slice bA' fk.ty.bs.length bC') := hfx.cell 7
        have x8 : w2.cell? ⟨wr.heap.size, 8, none⟩ = some (.slice nA' fk.ty.ns.length nC') := hfx.cell 8
        have y2 := hfx.frozen 2
        have y3 := hfx.frozen 3
        have y4 := hfx.frozen 4
        have y5 := hfx.frozen 5
        have y6 := hfx.frozen 6
        have y7 := hfx.frozen 7
        have y8 := hfx.frozen 8
        obtain ⟨wq, hwq, hq1, hq2, hq3, hq4⟩ := set7 (r := none) hfx (Gr.of_below HW2.out) (.int .i64 T.c) (.int .i64 T.w) (.bool T.big) (.slice fA9 T.fs.length fC9) (.slice dA9 T.ds.length dC9) (.slice bA9 T.bs.length bC9) (.slice nA9 T.ns.length nC9)
        have HWQ := Lib.hid hwq
        have HQ1 := Lib.hid hq1
        have HQ2 := Lib.hid hq2
        have HQ3 := Lib.hid hq3
        have HQ4 := Lib.hid hq4
        clear hfx hL hS' hb2 hb3 hsm a0 a1 a2 a3 a4 a5 a6 g0 g1 c3 hwq hq1 hq2 hq3 hq4
        go_upto_region 8 with fail
        rw [HWQ.out]
        clear x2 x3 x4 x5 x6 x7 x8 y2 y3 y4 y5 y6 y7 y8
        have hVne : ∀ g, g < w.heap.size + 1 + 1 + 1 → V.ownBlock ≠ some g := fun g hg e => by have := (HLP.out.row.lt g e).1; omega
        have hVwr : V.ownBlock ≠ some wr.heap.size := fun e => by have := (HLP.out.row.lt _ e).2; omega
        have l3 := HLP.out.b3.lt
        have hb3 := HQ2.out.bx HLP.out.b3 (by omega) (by simp)
        have v3 : wq.cell? ⟨w.heap.size + 1 + 1, 3, none⟩ = some V := hb3.cell 3
        have x0 : wq.cell? ⟨wr.heap.size, 0, none⟩ = some (.string fk.name) := HQ1.out.cell 0
        have x1 : wq.cell? ⟨wr.heap.size, 1, none⟩ = some (.int .i64 fk.pos) := HQ1.out.cell 1
        have x2 : wq.cell? ⟨wr.heap.size, 2, none⟩ = some (.int .i64 T.c) := HQ1.out.cell 2
        have x3 : wq.cell? ⟨wr.heap.size, 3, none⟩ = some (.int .i64 T.w) := HQ1.out.cell 3
        have x4 : wq.cell? ⟨wr.heap.size, 4, none⟩ = some (.bool T.big) := HQ1.out.cell 4
        have x5 : wq.cell? ⟨wr.heap.size, 5, none⟩ = some (.slice fA9 T.fs.length fC9) := HQ1.out.cell 5
        have x6 : wq.cell? ⟨wr.heap.size, 6, none⟩ = some (.slice dA9 T.ds.length dC9) := HQ1.out.cell 6
        have x7 : wq.cell? ⟨wr.heap.size, 7, none⟩ = some (.slice bA9 T.bs.length bC9) := HQ1.out.cell 7
        have x8 : wq.cell? ⟨wr.heap.size, 8, none⟩ = some (.slice nA9 T.ns.length nC9) := HQ1.out.cell 8
        have hkb : (k + 1) * 144 ≤ 140737488355328 := by have h1 := KF.out; rw [bytesF9] at h1; have h2 : reachBytes ≤ 140737488355328 := by decide
                                                         omega
        have hkm : k + 1 ≤ maxLen := by unfold maxLen; omega
        have hgA := HQ2.out.alloc (.cells #[.string fk.name, .int .i64 fk.pos, .int .i64 T.c, .int .i64 T.w, .bool T.big, .slice fA9 T.fs.length fC9, .slice dA9 T.ds.length dC9, .slice bA9 T.bs.length bC9, .slice nA9 T.ns.length nC9] 66)
        have HGA := Lib.hid hgA
        have HRA := Lib.hid (show (wq.alloc (.cells #[.string fk.name, .int .i64 fk.pos, .int .i64 T.c, .int .i64 T.w, .bool T.big, .slice fA9 T.fs.length fC9, .slice dA9 T.ds.length dC9, .slice bA9 T.bs.length bC9, .slice nA9 T.ns.length nC9] 66)).ownsRow (w.heap.size + 1 + 1 + 1) 66 9 V k rs.flatten from by
          have h1 := HLP.out.row
          rw [HKR.out] at h1
          exact hgA.own h1 hVwr)
        have HBA3 := Lib.hid (hgA.bx HLP.out.b3 (by omega) (by simp))
        have HSZ := Lib.hid (show w.heap.size + 1 + 1 + 1 ≤ (wq.alloc (.cells #[.string fk.name, .int .i64 fk.pos, .int .i64 T.c, .int .i64 T.w, .bool T.big, .slice fA9 T.fs.length fC9, .slice dA9 T.ds.length dC9, .slice bA9 T.bs.length bC9, .slice nA9 T.ns.length nC9] 66)).heap.size from Nat.le_trans l3 hgA.size)
        have HAN := Lib.hid (heap_alloc_new wq (.cells #[.string fk.name, .int .i64 fk.pos, .int .i64 T.c, .int .i64 T.w, .bool T.big, .slice fA9 T.fs.length fC9, .slice dA9 T.ds.length dC9, .slice bA9 T.bs.length bC9, .slice nA9 T.ns.length nC9] 66))
        clear hgA hb3 l3
        go_wp2_with (at_builtin; refine wpList_append_lies _ rfl (.tmp 30) (.tmp 32) 23 rfl (w.heap.size + 1 + 1 + 1) 66 i0 _ 9 144 Try.underlying23 hi0 hz0 hz1 hz2 rfl (by decide) V k rs.flatten rfl HRA.out ⟨wq.heap.size, 0, none⟩ 1 1 [.string fk.name, .int .i64 fk.pos, .int .i64 T.c, .int .i64 T.w, .bool T.big, .slice fA9 T.fs.length fC9, .slice dA9 T.ds.length dC9, .slice bA9 T.bs.length bC9, .slice nA9 T.ns.length nC9] rfl rfl (World.news_of_block HAN.out) (by simp [Value.oneCell']) (by decide) hkm hkb HSZ.out _ rfl ?_; intro g9 cap9 wt hown hgr hat hlt9; have hbt3 := hgr.block (w.heap.size + 1 + 1) HBA3.out.lt (fun e => hVne _ (by omega) e.symm); have hbt4 := hbt3.trans HBA3.out; have o1 := Bx.cell hbt4 3; have o2 := Bx.frozen hbt4 3)
        have HOWN := Lib.hid hown
        have hwqs : (wq.alloc (.cells #[.string fk.name, .int .i64 fk.pos, .int .i64 T.c, .int .i64 T.w, .bool T.big, .slice fA9 T.fs.length fC9, .slice dA9 T.ds.length dC9, .slice bA9 T.bs.length bC9, .slice nA9 T.ns.length nC9] 66)).heap.size = w2.heap.size + 1 := by rw [size_alloc, HQ3.out]
        have hst := Lp.step HLP.out HKR.out (w2 := w2) (wt := wt) (S' := S') (V' := .slice (some ⟨g9, 0, none⟩) (k + 1) cap9) (by simpa using hlt) (HGA.out.weak.trans (.inl rfl) (.of_grown hgr)) (fun g h1 h2 => (hgr.block g (by rw [hwqs]; omega) (fun e => by have h3 := HLP.out.row.lt g e.symm; have := HS'.out g h1; omega)).trans (((below_new wq _).block g (by rw [HQ3.out]; exact h2)).trans (HQ4.out g (by have := HS'.out g h1; have := HLP.out.b3.lt; omega))))
          (by have := hgr.size; rw [hwqs] at this; omega) HW2.out.size
          (by
            have e : ((fs.map (tnF bg)).map Fd.ty)[k]'(by simpa using hlt) = T := by
              rw [List.getElem_map, List.getElem_map, ← HT.out]
              exact congrArg (fun f => tn bg f.ty) (Option.some.inj ((List.getElem?_eq_getElem hlt).symm.trans HFK.out))
            rw [e]
            exact HL.out) (fun g h => by have := HS'.out g h; omega) 3 (by rw [hdF_at (f := tnF bg fk) (by rw [List.getElem?_map, HFK.out]; rfl)]; exact HOWN.out) (by
            rcases hat with h | h
            · exact .inl h.symm
            · exact .inr ⟨g9, rfl, by rw [h, hwqs]; omega⟩)
        have HSTP := Lib.hid hst
        clear hst hown hgr hat hwqs
        go_roundw
        case rel => exact ⟨k + 1, _, _, _, by simp [HKR.out], by omega, by go_num, HSTP.out, fun g h => .inl (HSUB.out g h)⟩
        case measure => simp [intOf]; omega
      · obtain rfl : k = fs.length := by omega
        obtain ⟨Af, Cf, hVe⟩ := own_form HLP.out.row
        subst hVe
        have hnx := HLP.out.next (e2 := 28) (size2 := 7) (fun _ => []) (bs.map (tn bg))
        have hsub1 : ∀ g, T0 db nb ds ns g → (fun g => S g ∨ (Value.slice Af rs.length Cf).ownBlock = some g) g := fun g h => .inl (HSUB.out g h)
        generalize hS1 : (fun g => S g ∨ (Value.slice Af rs.length Cf).ownBlock = some g) = S1 at hnx hsub1
        clear hS1
        have HNX := Lib.hid hnx
        have HSUB1 := Lib.hid hsub1
        clear hnx hsub1 HLP HSUB
        go_wp2
        clear c3 c5 IF K1 KF HFA HF0 HF1 HF2 HFT
        go_loopw [8] (fun i wx => ∃ (k : Nat) (V2 : Value) (rb : List (List Value)) (S : Nat → Prop), rb.length = k ∧ k ≤ bs.length ∧ i = .int .i64 k ∧
           Lp B w wx #[.int .i64 c, .int .i64 wd, .bool b, .slice fA fs.length fC, .slice dA ds.length dC, .slice bA bs.length bC, .slice nA ns.length nC] #[.int .i64 c, .int .i64 wd, .bool b, .slice Af rs.length Cf, .slice dA ds.length dC, V2, .slice nA ns.length nC] S (fun w' => U0 db nb dA nA ds ns w' ∧ RowsAt S1 (.slice Af rs.length Cf) (hdF (fs.map (tnF bg))) ((fs.map (tnF bg)).map Fd.ty) rs w') 28 7 V2 (fun _ => []) (bs.map (tn bg)) rb ∧
           ∀ g, S1 g → S g) (fun i _ => bs.length - (intOf i).toNat)
        case atStart => exact ⟨0, _, [], _, rfl, Nat.zero_le _, rfl, HNX.out, fun g h => h⟩
        case round =>
          clear HNX
          obtain ⟨k, V2, rb, S2, hkr2, hk, rfl, hlp, hsub⟩ := hrel
          have HLP := Lib.hid hlp
          have HSUB := Lib.hid hsub
          have HKR2 := Lib.hid hkr2
          have c5 : wr.cell? ⟨w.heap.size, 5, none⟩ = some (.slice bA bs.length bC) := hlp.b1.cell 5
          have v5 : wr.cell? ⟨w.heap.size + 1 + 1, 5, none⟩ = some V2 := hlp.b3.cell 5
          clear hlp hsub hkr2
          by_cases hlt : k < bs.length
          · obtain ⟨rfl, hnb⟩ := HBA.out (by omega)
            have hc := fun o : Nat => HLP.out.be.cell (p := ⟨bb, o, none⟩) (Nat.lt_of_lt_of_le hnb hB)
            have a0 : wr.cell? ⟨bb, bo + k * 7, none⟩ = some (bv k 0) := (hc _).trans (HB0.out k hlt 0 (by omega))
            have a1 := (hc (bo + k * 7 + 1)).trans (HB0.out k hlt 1 (by omega))
            have a2 := (hc (bo + k * 7 + 2)).trans (HB0.out k hlt 2 (by omega))
            have a3 := (hc (bo + k * 7 + 3)).trans (HB0.out k hlt 3 (by omega))
            have a4 := (hc (bo + k * 7 + 4)).trans (HB0.out k hlt 4 (by omega))
            have a5 := (hc (bo + k * 7 + 5)).trans (HB0.out k hlt 5 (by omega))
            have a6 := (hc (bo + k * 7 + 6)).trans (HB0.out k hlt 6 (by omega))
            clear hc
            have hbt := HBT.out k hlt
            have hm := List.getElem_mem hlt
            generalize hxk : bs[k] = xk at hbt hm
            have HXK := Lib.hid hxk
            clear hxk
            obtain ⟨fA', dA', bA', nA', fC', dC', bC', nC', e0, e1, e2, e3, e4, e5, e6⟩ := hbt.cells
            rw [e0] at a0 hbt
            rw [e1] at a1 hbt
            rw [e2] at a2 hbt
            rw [e3] at a3 hbt
            rw [e4] at a4 hbt
            rw [e5] at a5 hbt
            rw [e6] at a6 hbt
            have HBT1 := Lib.hid ((hbt.later (HLP.out.be.mono hB)).drew)
            have HBS := Lib.hid HLP.out.be.size
            clear e0 e1 e2 e3 e4 e5 e6 hbt
            have l3 := HLP.out.b3.lt
            have hlw : w.heap.size < wr.heap.size := by omega
            have hbw : bb < wr.heap.size := by omega
            have hlv : w.heap.size < w.heap.size + 1 + 1 := by omega
            have hbv : bb < w.heap.size + 1 + 1 := by omega
            have hkb : (k + 1) * 120 ≤ 140737488355328 := by have h1 := KB.out; rw [bytesT7] at h1; have h2 : reachBytes ≤ 140737488355328 := by decide
                                                             omega
            have hkm : k + 1 ≤ maxLen := by unfold maxLen; omega
            have hkl : (k : Int) < (bs.length : Int) := by omega
            have hk0 : (0 : Int) ≤ (k : Int) := by omega
            have v5d : wr.drew.cell? ⟨w.heap.size + 1 + 1, 5, none⟩ = some V2 := v5
            have HVne := Lib.hid (show ∀ g, g < w.heap.size + 1 + 1 + 1 → V2.ownBlock ≠ some g from fun g hg e => by have := (HLP.out.row.lt g e).1; omega)
            obtain ⟨T, hT⟩ : ∃ T, tn bg xk = T := ⟨_, rfl⟩
            have HT := Lib.hid hT
            clear hT
            go_upto_region 12 with fail
            go_region_law
              (first
                | (refine step_append_lies (w2.alloc (.cells #[.int .i64 T.c, .int .i64 T.w, .bool T.big, .slice fA9 T.fs.length fC9, .slice dA9 T.ds.length dC9, .slice bA9 T.bs.length bC9, .slice nA9 T.ns.length nC9] 28)) (by rfl) (.tmp 43) (.tmp 51) 25 (by rfl) (w.heap.size + 1 + 1 + 1) 28 j0 (.agg #[.int .i64 0, .int .i64 0, .bool false, .slice none 0 0, .slice none 0 0, .slice none 0 0, .slice none 0 0]) 7 120 Try.underlying25 hj0 hj1 hj2 hj3 (by rfl) (by decide) V2 k rb.flatten (by rfl) (HGA.out.own (by rw [← HKR2.out]; exact HLP.out.row) (fun e => absurd (HLP.out.row.lt _ e).2 (Nat.lt_irrefl _))) ⟨w2.heap.size, 0, none⟩ 1 1 [.int .i64 T.c, .int .i64 T.w, .bool T.big, .slice fA9 T.fs.length fC9, .slice dA9 T.ds.length dC9, .slice bA9 T.bs.length bC9, .slice nA9 T.ns.length nC9] (by rfl) (by rfl) (World.news_of_block (heap_alloc_new w2 (.cells #[.int .i64 T.c, .int .i64 T.w, .bool T.big, .slice fA9 T.fs.length fC9, .slice dA9 T.ds.length dC9, .slice bA9 T.bs.length bC9, .slice nA9 T.ns.length nC9] 28))) (by simp [Value.oneCell']) (by decide) hkm hkb (Nat.le_trans l3 HGA.out.size) (w2.heap.size + 1) (by rw [size_alloc]) ?_; intro g9 cap9 wt hown hgr hat hlt9;
                    have hk4 : ∀ (b o : Nat), b < w.heap.size + 1 + 1 → wt.cell? ⟨b, o, none⟩ = wr.cell? ⟨b, o, none⟩ := fun b o hb => (World.cell?_of_block (w := w2.alloc (.cells #[.int .i64 T.c, .int .i64 T.w, .bool T.big, .slice fA9 T.fs.length fC9, .slice dA9 T.ds.length dC9, .slice bA9 T.bs.length bC9, .slice nA9 T.ns.length nC9] 28)) (a := ⟨b, o, none⟩) (hgr.block b (Nat.lt_of_lt_of_le (by omega) HGA.out.size) (fun e => HVne.out b (by omega) e.symm))).trans (hk3 _ b o (by omega));
                    have hk5 : ∀ (u : Value) (b o : Nat), b < w.heap.size + 1 + 1 → (wt.setCell ⟨w.heap.size + 1 + 1, 5, none⟩ u).cell? ⟨b, o, none⟩ = wr.cell? ⟨b, o, none⟩ := fun u b o hb => (World.cell?_setCell_far _ _ _ _ (by show w.heap.size + 1 + 1 ≠ b; omega)).trans (hk4 b o hb);
                    have hbt4 := (hgr.block (w.heap.size + 1 + 1) (Nat.lt_of_lt_of_le l3 HGA.out.size) (fun e => HVne.out _ (by omega) e.symm)).trans (HGA.out.bx HLP.out.b3 (by omega) (by simp)); have o1 := Bx.cell hbt4 5; have o2 := Bx.frozen hbt4 5)
                | (go_simp; go_at_call 40; refine (IB.out xk hm (K2.out _ hm) _ B wr.drew (Nat.le_trans hB HBS.out) HBT1.out).mono ?_; rintro _ w2 ⟨u, S', rfl, hL, hS', hb2⟩; rw [HT.out] at hL; obtain ⟨fA9, dA9, bA9, nA9, fC9, dC9, bC9, nC9, rfl⟩ := hL.here.shape; have hk2 : ∀ (b o : Nat), b < wr.heap.size → w2.cell? ⟨b, o, none⟩ = wr.cell? ⟨b, o, none⟩ := fun b o hb => hb2.cell (p := ⟨b, o, none⟩) hb; have hk3 : ∀ (x : Obj) (b o : Nat), b < wr.heap.size → (w2.alloc x).cell? ⟨b, o, none⟩ = wr.cell? ⟨b, o, none⟩ := fun x b o hb => (cell_old w2 x (Nat.lt_of_lt_of_le hb hb2.size) o).trans (hk2 b o hb); have v5n := (hk2 _ 5 l3).trans v5; have v5m := (hk3 (.cells #[.int .i64 T.c, .int .i64 T.w, .bool T.big, .slice fA9 T.fs.length fC9, .slice dA9 T.ds.length dC9, .slice bA9 T.bs.length bC9, .slice nA9 T.ns.length nC9] 28) _ 5 l3).trans v5; have HW2 := Lib.hid hb2; have HL := Lib.hid hL; have HS' := Lib.hid hS';
                    have HGA := Lib.hid (show Gr wr.heap.size none wr (w2.alloc (.cells #[.int .i64 T.c, .int .i64 T.w, .bool T.big, .slice fA9 T.fs.length fC9, .slice dA9 T.ds.length dC9, .slice bA9 T.bs.length bC9, .slice nA9 T.ns.length nC9] 28)) from ((Gr.of_below (Below.refl _ wr).drew).trans (.inl rfl) (Gr.of_below hb2)).alloc _); clear hb2 hL hS'))
            all_goals
              have hwqs : (w2.alloc (.cells #[.int .i64 T.c, .int .i64 T.w, .bool T.big, .slice fA9 T.fs.length fC9, .slice dA9 T.ds.length dC9, .slice bA9 T.bs.length bC9, .slice nA9 T.ns.length nC9] 28)).heap.size = w2.heap.size + 1 := by rw [size_alloc]
              have hst := Lp.step HLP.out HKR2.out (w2 := w2) (wt := wt) (S' := S') (V' := .slice (some ⟨g9, 0, none⟩) (k + 1) cap9) (by simpa using hlt) (HGA.out.weak.trans (.inl rfl) (.of_grown hgr)) (fun g h1 h2 => (hgr.block g (by rw [hwqs]; omega) (fun e => by have h3 := HLP.out.row.lt g e.symm; have h4 : wr.heap.size ≤ g ∨ g < B := HS'.out g h1; omega)).trans ((below_new w2 _).block g h2))
                (by have := hgr.size; rw [hwqs] at this; omega) HW2.out.size (by rw [List.getElem_map, HXK.out, HT.out]; exact HL.out) (fun g h => HS'.out g h) 5 hown (by
                  rcases hat with h | h
                  · exact .inl h.symm
                  · exact .inr ⟨g9, rfl, by rw [h]; omega⟩)
              have HSTP := Lib.hid hst
              clear hst hown hgr hat hwqs hk2 hk3 hk4 hk5 a0 a1 a2 a3 a4 a5 a6 c5
              go_wp2
              go_roundw
              (case rel => exact ⟨k + 1, _, _, _, by simp [HKR2.out], by omega, by go_num, HSTP.out, fun g h => .inl (HSUB.out g h)⟩)
              (case measure => simp [intOf]; omega)
          · obtain rfl : k = bs.length := by omega
            obtain ⟨Ab, Cb, hVe⟩ := own_form HLP.out.row
            subst hVe
            have hlies : ∃ S3 : Nat → Prop, Lies S3 wr (.mk c wd b' (fs.map (tnF bg)) ds (bs.map (tn bg)) ns) (.agg #[.int .i64 c, .int .i64 wd, .bool b', .slice Af rs.length Cf, .slice dA ds.length dC, .slice Ab rb.length Cb, .slice nA ns.length nC]) ∧ ∀ g, S3 g → w.heap.size + 1 + 1 < g ∨ g < B := by
              refine ⟨fun g => S2 g ∨ (Value.slice Ab rb.length Cb).ownBlock = some g, ⟨fun g hg => ?_, fun w3 hw3 B2 hB2 => ?_⟩, fun g hg => ?_⟩
              · rcases hg with hg | hg
                · exact (HLP.out.sb g hg).2
                · exact (HLP.out.row.lt g hg).2
              · have hrb := HLP.out.rows w3 hw3
                obtain ⟨⟨hE1, hE2⟩, hE3⟩ := HLP.out.ex w3 (fun g hg => hw3 g (.inl hg))
                exact own_mk (by rw [List.length_map]; exact hf) hd (by rw [List.length_map]; exact hb) hn (fun f h => by obtain ⟨f0, h0, rfl⟩ := List.mem_map.mp h; exact HFZ.out f0 h0) HNB.out HNR.out (hE1.more fun g hg => .inl (HSUB.out g (HSUB1.out g hg))) (hE2.more fun g hg => .inl (HSUB.out g (HSUB1.out g hg))) (hE3.more fun g hg => .inl (HSUB.out g hg)) (by rw [List.length_map]; exact HKR.out) hrb (by rw [List.length_map]; exact HKR2.out) hcap.2.1 hcap.2.2.2 B2 hB2
              · rcases hg with hg | hg
                · exact (HLP.out.sb g hg).1
                · exact .inl (HLP.out.row.lt g hg).1
            obtain ⟨S3, hl3, hs3⟩ := hlies
            have HL3 := Lib.hid hl3
            have HS3 := Lib.hid hs3
            have HBE := Lib.hid HLP.out.be
            have t0 : wr.cell? ⟨w.heap.size, 0, none⟩ = some (.int .i64 c) := HLP.out.b1.cell 0
            have d0 : wr.cell? ⟨w.heap.size + 1 + 1, 0, none⟩ = some (.int .i64 c) := HLP.out.b3.cell 0
            have d1 : wr.cell? ⟨w.heap.size + 1 + 1, 1, none⟩ = some (.int .i64 wd) := HLP.out.b3.cell 1
            have d2 : wr.cell? ⟨w.heap.size + 1 + 1, 2, none⟩ = some (.bool b) := HLP.out.b3.cell 2
            have d3 : wr.cell? ⟨w.heap.size + 1 + 1, 3, none⟩ = some (.slice Af rs.length Cf) := HLP.out.b3.cell 3
            have d4 : wr.cell? ⟨w.heap.size + 1 + 1, 4, none⟩ = some (.slice dA ds.length dC) := HLP.out.b3.cell 4
            have d5 : wr.cell? ⟨w.heap.size + 1 + 1, 5, none⟩ = some (.slice Ab rb.length Cb) := HLP.out.b3.cell 5
            have d6 : wr.cell? ⟨w.heap.size + 1 + 1, 6, none⟩ = some (.slice nA ns.length nC) := HLP.out.b3.cell 6
            have r0 : wr.cell? ⟨w.heap.size + 1, 0, none⟩ = some (.int .i64 0) := HLP.out.b2.cell 0
            have r1 : wr.cell? ⟨w.heap.size + 1, 1, none⟩ = some (.int .i64 0) := HLP.out.b2.cell 1
            have r2 : wr.cell? ⟨w.heap.size + 1, 2, none⟩ = some (.bool false) := HLP.out.b2.cell 2
            have r3 : wr.cell? ⟨w.heap.size + 1, 3, none⟩ = some (.slice none 0 0) := HLP.out.b2.cell 3
            have r4 : wr.cell? ⟨w.heap.size + 1, 4, none⟩ = some (.slice none 0 0) := HLP.out.b2.cell 4
            have r5 : wr.cell? ⟨w.heap.size + 1, 5, none⟩ = some (.slice none 0 0) := HLP.out.b2.cell 5
            have r6 : wr.cell? ⟨w.heap.size + 1, 6, none⟩ = some (.slice none 0 0) := HLP.out.b2.cell 6
            have z0 := HLP.out.b2.frozen 0
            have z1 := HLP.out.b2.frozen 1
            have z2 := HLP.out.b2.frozen 2
            have z3 := HLP.out.b2.frozen 3
            have z4 := HLP.out.b2.frozen 4
            have z5 := HLP.out.b2.frozen 5
            have z6 := HLP.out.b2.frozen 6
            have zz := HLP.out.b3.frozen 2
            clear hl3 hs3 HLP HSUB HSUB1 v5
            by_cases hc4 : c ≤ 4
            · have hbb := HBB.out
              rw [if_pos hc4] at hbb
              subst hbb
              go_wp2
              refine bodyPost_ret (v := .agg #[.int .i64 c, .int .i64 wd, .bool bg, .slice Af rs.length Cf, .slice dA ds.length dC, .slice Ab rb.length Cb, .slice nA ns.length nC]) (by simp [results, Try.results40, go_sem, r0, r1, r2, r3, r4, r5, r6]) rfl ⟨_, S3, rfl, HL3.out.keep (fun g hg => ?_) (by simp [World.setCell]), fun g hg => by have := HS3.out g hg; omega, ?_⟩
              · have h := HS3.out g hg
                have hne : g ≠ w.heap.size + 1 := by omega
                have hne2 : g ≠ w.heap.size + 1 + 1 := by omega
                rw [Below.heap_setCell _ _ _ _ hne, Below.heap_setCell _ _ _ _ hne, Below.heap_setCell _ _ _ _ hne, Below.heap_setCell _ _ _ _ hne, Below.heap_setCell _ _ _ _ hne, Below.heap_setCell _ _ _ _ hne, Below.heap_setCell _ _ _ _ hne, Below.heap_setCell _ _ _ _ hne2]
              · refine Below.setCell (Below.setCell (Below.setCell (Below.setCell (Below.setCell (Below.setCell (Below.setCell (Below.setCell HBE.out ?_ _) ?_ _) ?_ _) ?_ _) ?_ _) ?_ _) ?_ _) ?_ _
                · show w.heap.size ≤ w.heap.size + 1 + 1; omega
                all_goals exact Nat.le_succ _
            · have hbb := HBB.out
              rw [if_neg hc4] at hbb
              subst hbb
              go_wp2
              refine bodyPost_ret (v := .agg #[.int .i64 c, .int .i64 wd, .bool b, .slice Af rs.length Cf, .slice dA ds.length dC, .slice Ab rb.length Cb, .slice nA ns.length nC]) (by simp [results, Try.results40, go_sem, r0, r1, r2, r3, r4, r5, r6]) rfl ⟨_, rfl, S3, HL3.out.keep (fun g hg => ?_) (by simp [World.setCell]), fun g hg => by have := HS3.out g hg; omega, ?_⟩
              · have h := HS3.out g hg
                have hne : g ≠ w.heap.size + 1 := by omega
                rw [Below.heap_setCell _ _ _ _ hne, Below.heap_setCell _ _ _ _ hne, Below.heap_setCell _ _ _ _ hne, Below.heap_setCell _ _ _ _ hne, Below.heap_setCell _ _ _ _ hne, Below.heap_setCell _ _ _ _ hne, Below.heap_setCell _ _ _ _ hne]
              · refine Below.setCell (Below.setCell (Below.setCell (Below.setCell (Below.setCell (Below.setCell (Below.setCell HBE.out ?_ _) ?_ _) ?_ _) ?_ _) ?_ _) ?_ _) ?_ _ <;> exact Nat.le_succ _
end Go.Proofs.Ytbdhihgokkcmfaa.Ty9
