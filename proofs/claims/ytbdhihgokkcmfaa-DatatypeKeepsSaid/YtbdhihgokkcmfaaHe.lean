/- What turning keeps; Swapped on both sides. -/
import Derived.Test.YtbdhihgokkcmfaaGa
import Derived.Test.YtbdhihgokkcmfaaTs
import Derived.Test.YtbdhihgokkcmfaaHa
import Derived.Test.YtbdhihgokkcmfaaGg
namespace Go.Proofs.Ytbdhihgokkcmfaa.Ty9
set_option linter.unusedVariables false
set_option linter.unusedSimpArgs false
open Go.RowKit Wd

theorem tn_c (bg : Bool) (t : Ty) : (tn bg t).c = t.c := by cases t; rw [tn_mk]; rfl
theorem tn_w (bg : Bool) (t : Ty) : (tn bg t).w = t.w := by cases t; rw [tn_mk]; rfl
theorem tn_ds (bg : Bool) (t : Ty) : (tn bg t).ds = t.ds := by cases t; rw [tn_mk]; rfl
theorem tn_ns (bg : Bool) (t : Ty) : (tn bg t).ns = t.ns := by cases t; rw [tn_mk]; rfl
theorem tn_fs (bg : Bool) (t : Ty) : (tn bg t).fs = t.fs.map (tnF bg) := by cases t; rw [tn_mk]; rfl
theorem tn_bs (bg : Bool) (t : Ty) : (tn bg t).bs = t.bs.map (tn bg) := by cases t; rw [tn_mk]; rfl
theorem tn_big (bg : Bool) (t : Ty) : (tn bg t).big = if t.c ≤ 4 then bg else t.big := by cases t; rw [tn_mk]; rfl
theorem tn_keep (bg : Bool) {t : Ty} (h : 4 < t.c) : (tn bg t).big = t.big := by rw [tn_big, if_neg (by omega)]
theorem numB_tn (bg : Bool) (t : Ty) : numB (tn bg t) = numB t := by
  unfold numB; rw [tn_c, tn_w, tn_ds, tn_ns, tn_fs, tn_bs, List.length_map, List.length_map]
theorem mems_tn (bg : Bool) (b : Ty) : ∀ ms pre, mems (tn bg b) ms pre = mems b ms pre
  | [], _ => by rw [mems, mems, tn_w]
  | m :: ms, pre => by rw [mems, mems, tn_c, tn_w, mems_tn bg b ms]
theorem flds_tn (bg : Bool) {S : Ty → Int} (hS : ∀ t, S (tn bg t) = S t) (W : Int) : ∀ fs pre e, flds S W (fs.map (tnF bg)) pre e = flds S W fs pre e
  | [], _, _ => rfl
  | f :: fs, pre, e => by
    have h1 : (tnF bg f).ty = tn bg f.ty := rfl
    have h2 : (tnF bg f).name = f.name := rfl
    have h3 : (tnF bg f).pos = f.pos := rfl
    rw [List.map_cons, flds, flds, h1, h2, h3, hS, flds_tn bg hS W fs]
theorem sz_tn (bg : Bool) : ∀ (d : Nat) (t : Ty), sz d (tn bg t) = sz d t
  | 0, _ => rfl
  | d + 1, t => by
    have hS := sz_tn bg d
    rw [sz, sz, tn_c]
    by_cases h5 : t.c = 5
    · rw [if_pos h5, if_pos h5, compS, compS, tn_keep bg (by omega), tn_w, tn_ds, tn_ns, tn_fs, tn_bs, List.length_map, List.length_map, flds_tn bg hS]
    rw [if_neg h5, if_neg h5]
    by_cases h6 : t.c = 6
    · rw [if_pos h6, if_pos h6, arrS, arrS, tn_keep bg (by omega), tn_w, tn_ds, tn_ns, tn_fs, tn_bs, List.length_map, List.length_map]
      have : arrB (sz d) t.ds (t.bs.map (tn bg)) = arrB (sz d) t.ds t.bs := by
        rcases t.bs with _ | ⟨b, _ | ⟨b2, bs⟩⟩
        · rfl
        · show dims t.ds (sz d (tn bg b)) = dims t.ds (sz d b); rw [hS]
        · rfl
      rw [this]
    rw [if_neg h6, if_neg h6]
    by_cases h7 : t.c = 7
    · rw [if_pos h7, if_pos h7, enumS, enumS, tn_keep bg (by omega), tn_w, tn_ds, tn_ns, tn_fs, tn_bs, List.length_map, List.length_map]
      have : enumB t.ns (t.bs.map (tn bg)) = enumB t.ns t.bs := by
        rcases t.bs with _ | ⟨b, _ | ⟨b2, bs⟩⟩
        · rfl
        · rw [List.map_cons, List.map_nil, enumB, enumB, tn_c, numB_tn, mems_tn]
        · rfl
      rw [this]
    rw [if_neg h7, if_neg h7, numS, numS, numB_tn, tn_c, tn_w]
theorem tn_tn (x y : Bool) (t : Ty) : tn x (tn y t) = tn x t := by
  induction t using Ty.ind with
  | h c wd b fs ds bs ns ihf ihb =>
    rw [tn_mk, tn_mk, tn_mk, List.map_map, List.map_map]
    congr 1
    · split <;> rfl
    · exact List.map_congr_left fun f hf => by
        show Fd.mk f.name f.pos (tn x (tn y f.ty)) = Fd.mk f.name f.pos (tn x f.ty)
        rw [ihf f hf]
    · exact List.map_congr_left fun b hb => ihb b hb
theorem fit_tn (bg : Bool) {t : Ty} (h : Fit t) : Fit (tn bg t) := by
  induction t using Ty.ind with
  | h c wd b fs ds bs ns ihf ihb =>
    cases h with
    | mk _ _ _ _ _ _ _ kf kd kb kn k1 k2 =>
    rw [tn_mk]
    refine .mk _ _ _ _ _ _ _ (by rw [List.length_map]; exact kf) kd (by rw [List.length_map]; exact kb) kn (fun f hf => ?_) (fun x hx => ?_)
    · obtain ⟨f0, h0, rfl⟩ := List.mem_map.mp hf
      exact ihf f0 h0 (k1 f0 h0)
    · obtain ⟨x0, h0, rfl⟩ := List.mem_map.mp hx
      exact ihb x0 h0 (k2 x0 h0)

theorem two14 {w wr : World} {g1 g2 : Nat} {t1 t2 : TypeId} {x0 x1 x2 x3 x4 x5 x6 y0 y1 y2 y3 y4 y5 y6 : Value} (h1 : Bx wr g1 t1 #[x0, x1, x2, x3, x4, x5, x6])  (h2 : Bx wr g2 t2 #[y0, y1, y2, y3, y4, y5, y6]) :
    wr.cell? ⟨g1, 0, none⟩ = some (x0) ∧ wr.cell? ⟨g1, 1, none⟩ = some (x1) ∧ wr.cell? ⟨g1, 2, none⟩ = some (x2) ∧ wr.cell? ⟨g1, 3, none⟩ = some (x3) ∧ wr.cell? ⟨g1, 4, none⟩ = some (x4) ∧ wr.cell? ⟨g1, 5, none⟩ = some (x5) ∧ wr.cell? ⟨g1, 6, none⟩ = some (x6) ∧ wr.cell? ⟨g2, 0, none⟩ = some (y0) ∧ wr.cell? ⟨g2, 1, none⟩ = some (y1) ∧ wr.cell? ⟨g2, 2, none⟩ = some (y2) ∧ wr.cell? ⟨g2, 3, none⟩ = some (y3) ∧ wr.cell? ⟨g2, 4, none⟩ = some (y4) ∧ wr.cell? ⟨g2, 5, none⟩ = some (y5) ∧ wr.cell? ⟨g2, 6, none⟩ = some (y6) :=
  ⟨h1.cell 0, h1.cell 1, h1.cell 2, h1.cell 3, h1.cell 4, h1.cell 5, h1.cell 6, h2.cell 0, h2.cell 1, h2.cell 2, h2.cell 3, h2.cell 4, h2.cell 5, h2.cell 6⟩

/-- Both sides' Swapped: may both be, and are they alike but for the order? -/
def Swp (s t : Ty) : Prop := sz 4 s ≠ 0 ∧ sz 4 t ≠ 0 ∧ tn false s = tn false t

set_option maxHeartbeats 4000000 in
set_option maxRecDepth 100000 in
theorem pswap_any (s t : Ty) (fs_ : Fit s) (ft_ : Fit t) (v u : Value) (w : World) (ht : TyAt w w.heap.size s v) (hu : TyAt w w.heap.size t u) :
    Calls Try.prog 26 #[v, u] w fun e w' => ∃ b, e = .returned (.bool b) ∧ (b = true ↔ Swp s t) ∧ Below w.heap.size w w' := by
  obtain ⟨fA, dA, bA, nA, fC, dC, bC, nC, rfl⟩ := ht.shape
  obtain ⟨fA2, dA2, bA2, nA2, fC2, dC2, bC2, nC2, rfl⟩ := hu.shape
  have HT := Lib.hid (Two.new w 28 #[.int .i64 s.c, .int .i64 s.w, .bool s.big, .slice fA s.fs.length fC, .slice dA s.ds.length dC, .slice bA s.bs.length bC, .slice nA s.ns.length nC] #[.int .i64 t.c, .int .i64 t.w, .bool t.big, .slice fA2 t.fs.length fC2, .slice dA2 t.ds.length dC2, .slice bA2 t.bs.length bC2, .slice nA2 t.ns.length nC2]).drew
  have H1 := Lib.hid ht
  have H2 := Lib.hid hu
  have HF1 := Lib.hid fs_
  have HF2 := Lib.hid ft_
  clear ht hu fs_ ft_
  have HS0 := Lib.hid (two14 (w := w) HT.out.b1 HT.out.b2)
  have HX1 := Lib.hid ((H1.out.later HT.out.be).up HT.out.be.size)
  by_cases z1 : sz 4 s = 0
  · have HEV1 := Lib.hid (show errV s = 15 from if_pos z1)
    have HR := Lib.hid (show ¬ Swp s t from fun h => h.1 z1)
    clear z1
    have c0 : ((w.alloc (.cells #[.int .i64 s.c, .int .i64 s.w, .bool s.big, .slice fA s.fs.length fC, .slice dA s.ds.length dC, .slice bA s.bs.length bC, .slice nA s.ns.length nC] 28)).alloc (.cells #[.int .i64 t.c, .int .i64 t.w, .bool t.big, .slice fA2 t.fs.length fC2, .slice dA2 t.ds.length dC2, .slice bA2 t.bs.length bC2, .slice nA2 t.ns.length nC2] 28)).drew.cell? ⟨w.heap.size, 0, none⟩ = some (.int .i64 s.c) := HT.out.b1.cell 0
    have c1 : ((w.alloc (.cells #[.int .i64 s.c, .int .i64 s.w, .bool s.big, .slice fA s.fs.length fC, .slice dA s.ds.length dC, .slice bA s.bs.length bC, .slice nA s.ns.length nC] 28)).alloc (.cells #[.int .i64 t.c, .int .i64 t.w, .bool t.big, .slice fA2 t.fs.length fC2, .slice dA2 t.ds.length dC2, .slice bA2 t.bs.length bC2, .slice nA2 t.ns.length nC2] 28)).drew.cell? ⟨w.heap.size, 1, none⟩ = some (.int .i64 s.w) := HT.out.b1.cell 1
    have c2 : ((w.alloc (.cells #[.int .i64 s.c, .int .i64 s.w, .bool s.big, .slice fA s.fs.length fC, .slice dA s.ds.length dC, .slice bA s.bs.length bC, .slice nA s.ns.length nC] 28)).alloc (.cells #[.int .i64 t.c, .int .i64 t.w, .bool t.big, .slice fA2 t.fs.length fC2, .slice dA2 t.ds.length dC2, .slice bA2 t.bs.length bC2, .slice nA2 t.ns.length nC2] 28)).drew.cell? ⟨w.heap.size, 2, none⟩ = some (.bool s.big) := HT.out.b1.cell 2
    have c3 : ((w.alloc (.cells #[.int .i64 s.c, .int .i64 s.w, .bool s.big, .slice fA s.fs.length fC, .slice dA s.ds.length dC, .slice bA s.bs.length bC, .slice nA s.ns.length nC] 28)).alloc (.cells #[.int .i64 t.c, .int .i64 t.w, .bool t.big, .slice fA2 t.fs.length fC2, .slice dA2 t.ds.length dC2, .slice bA2 t.bs.length bC2, .slice nA2 t.ns.length nC2] 28)).drew.cell? ⟨w.heap.size, 3, none⟩ = some (.slice fA s.fs.length fC) := HT.out.b1.cell 3
    have c4 : ((w.alloc (.cells #[.int .i64 s.c, .int .i64 s.w, .bool s.big, .slice fA s.fs.length fC, .slice dA s.ds.length dC, .slice bA s.bs.length bC, .slice nA s.ns.length nC] 28)).alloc (.cells #[.int .i64 t.c, .int .i64 t.w, .bool t.big, .slice fA2 t.fs.length fC2, .slice dA2 t.ds.length dC2, .slice bA2 t.bs.length bC2, .slice nA2 t.ns.length nC2] 28)).drew.cell? ⟨w.heap.size, 4, none⟩ = some (.slice dA s.ds.length dC) := HT.out.b1.cell 4
    have c5 : ((w.alloc (.cells #[.int .i64 s.c, .int .i64 s.w, .bool s.big, .slice fA s.fs.length fC, .slice dA s.ds.length dC, .slice bA s.bs.length bC, .slice nA s.ns.length nC] 28)).alloc (.cells #[.int .i64 t.c, .int .i64 t.w, .bool t.big, .slice fA2 t.fs.length fC2, .slice dA2 t.ds.length dC2, .slice bA2 t.bs.length bC2, .slice nA2 t.ns.length nC2] 28)).drew.cell? ⟨w.heap.size, 5, none⟩ = some (.slice bA s.bs.length bC) := HT.out.b1.cell 5
    have c6 : ((w.alloc (.cells #[.int .i64 s.c, .int .i64 s.w, .bool s.big, .slice fA s.fs.length fC, .slice dA s.ds.length dC, .slice bA s.bs.length bC, .slice nA s.ns.length nC] 28)).alloc (.cells #[.int .i64 t.c, .int .i64 t.w, .bool t.big, .slice fA2 t.fs.length fC2, .slice dA2 t.ds.length dC2, .slice bA2 t.bs.length bC2, .slice nA2 t.ns.length nC2] 28)).drew.cell? ⟨w.heap.size, 6, none⟩ = some (.slice nA s.ns.length nC) := HT.out.b1.cell 6
    go_enter Try.func26, Try.ntmps26
    go_upto_region 1 with fail
    go_region_law (first
      | (go_simp; go_at_call 17; refine (check_any s _ _ HX1.out).mono ?_; rintro _ w2 ⟨he, hb2⟩; rw [HEV1.out] at he; subst he; have HT2 := Lib.hid (HT.out.more hb2); have HX2 := Lib.hid ((H2.out.later HT2.out.be).up HT2.out.be.size); clear hb2 HX1))
    all_goals go_wp2
    all_goals go_ret
    all_goals exact ⟨false, rfl, by simp; exact HR.out, HT2.out.be⟩
  have HEV1 := Lib.hid (show errV s = 0 from if_neg z1)
  by_cases z2 : sz 4 t = 0
  · have HEV2 := Lib.hid (show errV t = 15 from if_pos z2)
    have HR := Lib.hid (show ¬ Swp s t from fun h => h.2.1 z2)
    clear z1 z2
    have c0 : ((w.alloc (.cells #[.int .i64 s.c, .int .i64 s.w, .bool s.big, .slice fA s.fs.length fC, .slice dA s.ds.length dC, .slice bA s.bs.length bC, .slice nA s.ns.length nC] 28)).alloc (.cells #[.int .i64 t.c, .int .i64 t.w, .bool t.big, .slice fA2 t.fs.length fC2, .slice dA2 t.ds.length dC2, .slice bA2 t.bs.length bC2, .slice nA2 t.ns.length nC2] 28)).drew.cell? ⟨w.heap.size, 0, none⟩ = some (.int .i64 s.c) := HT.out.b1.cell 0
    have c1 : ((w.alloc (.cells #[.int .i64 s.c, .int .i64 s.w, .bool s.big, .slice fA s.fs.length fC, .slice dA s.ds.length dC, .slice bA s.bs.length bC, .slice nA s.ns.length nC] 28)).alloc (.cells #[.int .i64 t.c, .int .i64 t.w, .bool t.big, .slice fA2 t.fs.length fC2, .slice dA2 t.ds.length dC2, .slice bA2 t.bs.length bC2, .slice nA2 t.ns.length nC2] 28)).drew.cell? ⟨w.heap.size, 1, none⟩ = some (.int .i64 s.w) := HT.out.b1.cell 1
    have c2 : ((w.alloc (.cells #[.int .i64 s.c, .int .i64 s.w, .bool s.big, .slice fA s.fs.length fC, .slice dA s.ds.length dC, .slice bA s.bs.length bC, .slice nA s.ns.length nC] 28)).alloc (.cells #[.int .i64 t.c, .int .i64 t.w, .bool t.big, .slice fA2 t.fs.length fC2, .slice dA2 t.ds.length dC2, .slice bA2 t.bs.length bC2, .slice nA2 t.ns.length nC2] 28)).drew.cell? ⟨w.heap.size, 2, none⟩ = some (.bool s.big) := HT.out.b1.cell 2
    have c3 : ((w.alloc (.cells #[.int .i64 s.c, .int .i64 s.w, .bool s.big, .slice fA s.fs.length fC, .slice dA s.ds.length dC, .slice bA s.bs.length bC, .slice nA s.ns.length nC] 28)).alloc (.cells #[.int .i64 t.c, .int .i64 t.w, .bool t.big, .slice fA2 t.fs.length fC2, .slice dA2 t.ds.length dC2, .slice bA2 t.bs.length bC2, .slice nA2 t.ns.length nC2] 28)).drew.cell? ⟨w.heap.size, 3, none⟩ = some (.slice fA s.fs.length fC) := HT.out.b1.cell 3
    have c4 : ((w.alloc (.cells #[.int .i64 s.c, .int .i64 s.w, .bool s.big, .slice fA s.fs.length fC, .slice dA s.ds.length dC, .slice bA s.bs.length bC, .slice nA s.ns.length nC] 28)).alloc (.cells #[.int .i64 t.c, .int .i64 t.w, .bool t.big, .slice fA2 t.fs.length fC2, .slice dA2 t.ds.length dC2, .slice bA2 t.bs.length bC2, .slice nA2 t.ns.length nC2] 28)).drew.cell? ⟨w.heap.size, 4, none⟩ = some (.slice dA s.ds.length dC) := HT.out.b1.cell 4
    have c5 : ((w.alloc (.cells #[.int .i64 s.c, .int .i64 s.w, .bool s.big, .slice fA s.fs.length fC, .slice dA s.ds.length dC, .slice bA s.bs.length bC, .slice nA s.ns.length nC] 28)).alloc (.cells #[.int .i64 t.c, .int .i64 t.w, .bool t.big, .slice fA2 t.fs.length fC2, .slice dA2 t.ds.length dC2, .slice bA2 t.bs.length bC2, .slice nA2 t.ns.length nC2] 28)).drew.cell? ⟨w.heap.size, 5, none⟩ = some (.slice bA s.bs.length bC) := HT.out.b1.cell 5
    have c6 : ((w.alloc (.cells #[.int .i64 s.c, .int .i64 s.w, .bool s.big, .slice fA s.fs.length fC, .slice dA s.ds.length dC, .slice bA s.bs.length bC, .slice nA s.ns.length nC] 28)).alloc (.cells #[.int .i64 t.c, .int .i64 t.w, .bool t.big, .slice fA2 t.fs.length fC2, .slice dA2 t.ds.length dC2, .slice bA2 t.bs.length bC2, .slice nA2 t.ns.length nC2] 28)).drew.cell? ⟨w.heap.size, 6, none⟩ = some (.slice nA s.ns.length nC) := HT.out.b1.cell 6
    go_enter Try.func26, Try.ntmps26
    go_upto_region 1 with fail
    go_region_law (first
      | (go_simp; go_at_call 17; refine (check_any s _ _ HX1.out).mono ?_; rintro _ w2 ⟨he, hb2⟩; rw [HEV1.out] at he; subst he; have HT2 := Lib.hid (HT.out.more hb2); have HX2 := Lib.hid ((H2.out.later HT2.out.be).up HT2.out.be.size); have d0 : w2.cell? ⟨w.heap.size + 1, 0, none⟩ = some (.int .i64 t.c) := HT2.out.b2.cell 0; have d1 : w2.cell? ⟨w.heap.size + 1, 1, none⟩ = some (.int .i64 t.w) := HT2.out.b2.cell 1; have d2 : w2.cell? ⟨w.heap.size + 1, 2, none⟩ = some (.bool t.big) := HT2.out.b2.cell 2; have d3 : w2.cell? ⟨w.heap.size + 1, 3, none⟩ = some (.slice fA2 t.fs.length fC2) := HT2.out.b2.cell 3; have d4 : w2.cell? ⟨w.heap.size + 1, 4, none⟩ = some (.slice dA2 t.ds.length dC2) := HT2.out.b2.cell 4; have d5 : w2.cell? ⟨w.heap.size + 1, 5, none⟩ = some (.slice bA2 t.bs.length bC2) := HT2.out.b2.cell 5; have d6 : w2.cell? ⟨w.heap.size + 1, 6, none⟩ = some (.slice nA2 t.ns.length nC2) := HT2.out.b2.cell 6; clear hb2 HX1)
      | (go_simp; go_at_call 17; refine (check_any t _ _ HX2.out).mono ?_; rintro _ w3 ⟨he, hb3⟩; rw [HEV2.out] at he; subst he; have HT3 := Lib.hid (HT2.out.more hb3); clear hb3 HX2))
    all_goals go_wp2
    all_goals go_ret
    all_goals exact ⟨false, rfl, by simp; exact HR.out, HT3.out.be⟩
  have HEV2 := Lib.hid (show errV t = 0 from if_neg z2)
  by_cases z3 : tn false s = tn false t
  · have HEQ := Lib.hid z3
    have HR := Lib.hid (show Swp s t from ⟨z1, z2, z3⟩)
    clear z1 z2 z3
    go_enter Try.func26, Try.ntmps26
    go_upto_region 1 with fail
    go_region_held3 (fun w' => w'.cell? ⟨w.heap.size, 0, none⟩ = some (.int .i64 s.c) ∧ w'.cell? ⟨w.heap.size, 1, none⟩ = some (.int .i64 s.w) ∧ w'.cell? ⟨w.heap.size, 2, none⟩ = some (.bool s.big) ∧ w'.cell? ⟨w.heap.size, 3, none⟩ = some (.slice fA s.fs.length fC) ∧ w'.cell? ⟨w.heap.size, 4, none⟩ = some (.slice dA s.ds.length dC) ∧ w'.cell? ⟨w.heap.size, 5, none⟩ = some (.slice bA s.bs.length bC) ∧ w'.cell? ⟨w.heap.size, 6, none⟩ = some (.slice nA s.ns.length nC) ∧ w'.cell? ⟨w.heap.size + 1, 0, none⟩ = some (.int .i64 t.c) ∧ w'.cell? ⟨w.heap.size + 1, 1, none⟩ = some (.int .i64 t.w) ∧ w'.cell? ⟨w.heap.size + 1, 2, none⟩ = some (.bool t.big) ∧ w'.cell? ⟨w.heap.size + 1, 3, none⟩ = some (.slice fA2 t.fs.length fC2) ∧ w'.cell? ⟨w.heap.size + 1, 4, none⟩ = some (.slice dA2 t.ds.length dC2) ∧ w'.cell? ⟨w.heap.size + 1, 5, none⟩ = some (.slice bA2 t.bs.length bC2) ∧ w'.cell? ⟨w.heap.size + 1, 6, none⟩ = some (.slice nA2 t.ns.length nC2))
      (first
        | (with_reducible exact two14 (w := w) HT6.out.b1 HT6.out.b2)
        | (with_reducible exact two14 (w := w) HT5.out.b1 HT5.out.b2)
        | (with_reducible exact two14 (w := w) HT4.out.b1 HT4.out.b2)
        | (with_reducible exact two14 (w := w) HT3.out.b1 HT3.out.b2)
        | (with_reducible exact two14 (w := w) HT2.out.b1 HT2.out.b2)
        | (with_reducible exact HS0.out))
      (first
        | (go_at_call 17; refine (check_any s _ _ HX1.out).mono ?_; rintro _ w2 ⟨he, hb2⟩; rw [HEV1.out] at he; subst he; have HT2 := Lib.hid (HT.out.more hb2); have HX2 := Lib.hid ((H2.out.later HT2.out.be).up HT2.out.be.size); clear hb2 HX1)
        | (go_at_call 17; refine (check_any t _ _ HX2.out).mono ?_; rintro _ w3 ⟨he, hb3⟩; rw [HEV2.out] at he; subst he; have HT3 := Lib.hid (HT2.out.more hb3); have HX3 := Lib.hid ((H1.out.later HT3.out.be).up HT3.out.be.size); clear hb3 HX2)
        | (go_at_call 39; refine (turn_any false s HF1.out _ _ HX3.out).mono ?_; rintro _ w4 ⟨u1, rfl, hsg, hb4⟩; have HT4 := Lib.hid (HT3.out.more hb4); have HX4 := Lib.hid ((H2.out.later HT4.out.be).up HT4.out.be.size); have HSG := Lib.hid (hsg.ty (Nat.le_refl _)); clear hsg hb4 HX3)
        | (go_at_call 39; refine (turn_any false t HF2.out _ _ HX4.out).mono ?_; rintro _ w5 ⟨u2, rfl, hsg, hb5⟩; have HT5 := Lib.hid (HT4.out.more hb5); have HSG1 := Lib.hid ((HSG.out.later hb5).up hb5.size); have HSG2 := Lib.hid (hsg.ty (Nat.le_refl _)); clear hsg hb5 HX4)
        | (go_at_call 27; refine (yes_of (psame_any (tn false s) (tn false t) _ _ _ HSG1.out HSG2.out) HEQ.out).mono ?_; rintro _ w6 ⟨rfl, hb6⟩; have HT6 := Lib.hid (HT5.out.more hb6); clear hb6))
    all_goals go_wp2
    all_goals go_ret
    all_goals exact ⟨true, rfl, by simp; exact HR.out, HT6.out.be⟩
  · have HEQ := Lib.hid z3
    have HR := Lib.hid (show ¬ Swp s t from fun h => z3 h.2.2)
    clear z1 z2 z3
    go_enter Try.func26, Try.ntmps26
    go_upto_region 1 with fail
    go_region_held3 (fun w' => w'.cell? ⟨w.heap.size, 0, none⟩ = some (.int .i64 s.c) ∧ w'.cell? ⟨w.heap.size, 1, none⟩ = some (.int .i64 s.w) ∧ w'.cell? ⟨w.heap.size, 2, none⟩ = some (.bool s.big) ∧ w'.cell? ⟨w.heap.size, 3, none⟩ = some (.slice fA s.fs.length fC) ∧ w'.cell? ⟨w.heap.size, 4, none⟩ = some (.slice dA s.ds.length dC) ∧ w'.cell? ⟨w.heap.size, 5, none⟩ = some (.slice bA s.bs.length bC) ∧ w'.cell? ⟨w.heap.size, 6, none⟩ = some (.slice nA s.ns.length nC) ∧ w'.cell? ⟨w.heap.size + 1, 0, none⟩ = some (.int .i64 t.c) ∧ w'.cell? ⟨w.heap.size + 1, 1, none⟩ = some (.int .i64 t.w) ∧ w'.cell? ⟨w.heap.size + 1, 2, none⟩ = some (.bool t.big) ∧ w'.cell? ⟨w.heap.size + 1, 3, none⟩ = some (.slice fA2 t.fs.length fC2) ∧ w'.cell? ⟨w.heap.size + 1, 4, none⟩ = some (.slice dA2 t.ds.length dC2) ∧ w'.cell? ⟨w.heap.size + 1, 5, none⟩ = some (.slice bA2 t.bs.length bC2) ∧ w'.cell? ⟨w.heap.size + 1, 6, none⟩ = some (.slice nA2 t.ns.length nC2))
      (first
        | (with_reducible exact two14 (w := w) HT6.out.b1 HT6.out.b2)
        | (with_reducible exact two14 (w := w) HT5.out.b1 HT5.out.b2)
        | (with_reducible exact two14 (w := w) HT4.out.b1 HT4.out.b2)
        | (with_reducible exact two14 (w := w) HT3.out.b1 HT3.out.b2)
        | (with_reducible exact two14 (w := w) HT2.out.b1 HT2.out.b2)
        | (with_reducible exact HS0.out))
      (first
        | (go_at_call 17; refine (check_any s _ _ HX1.out).mono ?_; rintro _ w2 ⟨he, hb2⟩; rw [HEV1.out] at he; subst he; have HT2 := Lib.hid (HT.out.more hb2); have HX2 := Lib.hid ((H2.out.later HT2.out.be).up HT2.out.be.size); clear hb2 HX1)
        | (go_at_call 17; refine (check_any t _ _ HX2.out).mono ?_; rintro _ w3 ⟨he, hb3⟩; rw [HEV2.out] at he; subst he; have HT3 := Lib.hid (HT2.out.more hb3); have HX3 := Lib.hid ((H1.out.later HT3.out.be).up HT3.out.be.size); clear hb3 HX2)
        | (go_at_call 39; refine (turn_any false s HF1.out _ _ HX3.out).mono ?_; rintro _ w4 ⟨u1, rfl, hsg, hb4⟩; have HT4 := Lib.hid (HT3.out.more hb4); have HX4 := Lib.hid ((H2.out.later HT4.out.be).up HT4.out.be.size); have HSG := Lib.hid (hsg.ty (Nat.le_refl _)); clear hsg hb4 HX3)
        | (go_at_call 39; refine (turn_any false t HF2.out _ _ HX4.out).mono ?_; rintro _ w5 ⟨u2, rfl, hsg, hb5⟩; have HT5 := Lib.hid (HT4.out.more hb5); have HSG1 := Lib.hid ((HSG.out.later hb5).up hb5.size); have HSG2 := Lib.hid (hsg.ty (Nat.le_refl _)); clear hsg hb5 HX4)
        | (go_at_call 27; refine (no_of (psame_any (tn false s) (tn false t) _ _ _ HSG1.out HSG2.out) HEQ.out).mono ?_; rintro _ w6 ⟨rfl, hb6⟩; have HT6 := Lib.hid (HT5.out.more hb6); clear hb6))
    all_goals go_wp2
    all_goals go_ret
    all_goals exact ⟨false, rfl, by simp; exact HR.out, HT6.out.be⟩

set_option maxHeartbeats 4000000 in
set_option maxRecDepth 100000 in
theorem rswap_any (s t : Ty) (fs_ : Fit s) (ft_ : Fit t) (v u : Value) (w : World) (ht : TyAt w w.heap.size s v) (hu : TyAt w w.heap.size t u) :
    Calls Try.prog 28 #[v, u] w fun e w' => ∃ b, e = .returned (.bool b) ∧ (b = true ↔ Swp s t) ∧ Below w.heap.size w w' := by
  obtain ⟨fA, dA, bA, nA, fC, dC, bC, nC, rfl⟩ := ht.shape
  obtain ⟨fA2, dA2, bA2, nA2, fC2, dC2, bC2, nC2, rfl⟩ := hu.shape
  have HT := Lib.hid (Two.new w 28 #[.int .i64 s.c, .int .i64 s.w, .bool s.big, .slice fA s.fs.length fC, .slice dA s.ds.length dC, .slice bA s.bs.length bC, .slice nA s.ns.length nC] #[.int .i64 t.c, .int .i64 t.w, .bool t.big, .slice fA2 t.fs.length fC2, .slice dA2 t.ds.length dC2, .slice bA2 t.bs.length bC2, .slice nA2 t.ns.length nC2])
  have H1 := Lib.hid ht
  have H2 := Lib.hid hu
  have HF1 := Lib.hid fs_
  have HF2 := Lib.hid ft_
  clear ht hu fs_ ft_
  have HX1 := Lib.hid ((H1.out.later HT.out.be).up HT.out.be.size)
  by_cases z1 : sz 4 s = 0
  · have HEV1 := Lib.hid (show errV s = 15 from if_pos z1)
    have HR := Lib.hid (show ¬ Swp s t from fun h => h.1 z1)
    obtain ⟨S1, hS1⟩ : ∃ S1, tT false s = S1 := ⟨_, rfl⟩
    obtain ⟨S2, hS2⟩ : ∃ S2, tT false t = S2 := ⟨_, rfl⟩
    have HS1 := Lib.hid hS1
    have HS2 := Lib.hid hS2
    clear hS1 hS2 z1
    go_enter Try.func28, Try.ntmps28
    go_wp2_with (go_at_call 24; refine (rturn_any false s HF1.out _ _ HX1.out).mono ?_)
    first
      | rintro _ w2 u1 rfl hsg hb2
      | rintro _ w2 ⟨u1, rfl, hsg, hb2⟩
    rw [HS1.out] at hsg
    rw [HEV1.out]
    obtain ⟨fA8, dA8, bA8, nA8, fC8, dC8, bC8, nC8, rfl⟩ := hsg.shape
    have HT2 := Lib.hid (HT.out.more (show Below _ _ _ by first | exact hb2 | (rw [size_alloc, size_alloc]; exact hb2)))
    have HSG := Lib.hid hsg
    clear hb2 hsg HX1
    go_upto_region 2 with fail
    have hn := below_new w2 (.cells #[.int .i64 S1.c, .int .i64 S1.w, .bool S1.big, .slice fA8 S1.fs.length fC8, .slice dA8 S1.ds.length dC8, .slice bA8 S1.bs.length bC8, .slice nA8 S1.ns.length nC8] 28)
    have hx := Bx.new w2 28 #[.int .i64 S1.c, .int .i64 S1.w, .bool S1.big, .slice fA8 S1.fs.length fC8, .slice dA8 S1.ds.length dC8, .slice bA8 S1.bs.length bC8, .slice nA8 S1.ns.length nC8]
    generalize hw3 : (w2.alloc (.cells #[.int .i64 S1.c, .int .i64 S1.w, .bool S1.big, .slice fA8 S1.fs.length fC8, .slice dA8 S1.ds.length dC8, .slice bA8 S1.bs.length bC8, .slice nA8 S1.ns.length nC8] 28)) = w3 at hn hx
    clear hw3
    have HT3 := Lib.hid (HT2.out.more hn)
    have HB3 := Lib.hid hx
    have HSG3 := Lib.hid ((HSG.out.later hn).up hn.size)
    clear hx hn
    have d0 : w3.cell? ⟨w.heap.size + 1, 0, none⟩ = some (.int .i64 t.c) := HT3.out.b2.cell 0
    have d1 : w3.cell? ⟨w.heap.size + 1, 1, none⟩ = some (.int .i64 t.w) := HT3.out.b2.cell 1
    have d2 : w3.cell? ⟨w.heap.size + 1, 2, none⟩ = some (.bool t.big) := HT3.out.b2.cell 2
    have d3 : w3.cell? ⟨w.heap.size + 1, 3, none⟩ = some (.slice fA2 t.fs.length fC2) := HT3.out.b2.cell 3
    have d4 : w3.cell? ⟨w.heap.size + 1, 4, none⟩ = some (.slice dA2 t.ds.length dC2) := HT3.out.b2.cell 4
    have d5 : w3.cell? ⟨w.heap.size + 1, 5, none⟩ = some (.slice bA2 t.bs.length bC2) := HT3.out.b2.cell 5
    have d6 : w3.cell? ⟨w.heap.size + 1, 6, none⟩ = some (.slice nA2 t.ns.length nC2) := HT3.out.b2.cell 6
    go_wp2_with (go_at_call 24; refine (rturn_any false t HF2.out _ w3 ((H2.out.later HT3.out.be).up HT3.out.be.size)).mono ?_)
    first
      | rintro _ w4 u2 rfl hsg hb4
      | rintro _ w4 ⟨u2, rfl, hsg, hb4⟩
    rw [HS2.out] at hsg
    generalize errV t = e2
    obtain ⟨fA7, dA7, bA7, nA7, fC7, dC7, bC7, nC7, rfl⟩ := hsg.shape
    have HT4 := Lib.hid (HT3.out.more hb4)
    have HB4 := Lib.hid (HB3.out.later hb4 HB3.out.lt)
    have HSG4 := Lib.hid ((HSG3.out.later hb4).up hb4.size)
    have HR4 := Lib.hid hsg
    clear hsg hb4 d0 d1 d2 d3 d4 d5 d6
    go_upto_region 3 with fail
    have hn := below_new w4 (.cells #[.int .i64 S2.c, .int .i64 S2.w, .bool S2.big, .slice fA7 S2.fs.length fC7, .slice dA7 S2.ds.length dC7, .slice bA7 S2.bs.length bC7, .slice nA7 S2.ns.length nC7] 28)
    have hx := Bx.new w4 28 #[.int .i64 S2.c, .int .i64 S2.w, .bool S2.big, .slice fA7 S2.fs.length fC7, .slice dA7 S2.ds.length dC7, .slice bA7 S2.bs.length bC7, .slice nA7 S2.ns.length nC7]
    generalize hw5 : (w4.alloc (.cells #[.int .i64 S2.c, .int .i64 S2.w, .bool S2.big, .slice fA7 S2.fs.length fC7, .slice dA7 S2.ds.length dC7, .slice bA7 S2.bs.length bC7, .slice nA7 S2.ns.length nC7] 28)) = w5 at hn hx
    clear hw5
    have HT5 := Lib.hid (HT4.out.more hn)
    clear hx hn
    go_wp2
    go_ret
    exact ⟨false, rfl, by simp; exact HR.out, HT5.out.be⟩
  have HEV1 := Lib.hid (show errV s = 0 from if_neg z1)
  by_cases z2 : sz 4 t = 0
  · have HEV2 := Lib.hid (show errV t = 15 from if_pos z2)
    have HR := Lib.hid (show ¬ Swp s t from fun h => h.2.1 z2)
    obtain ⟨S1, hS1⟩ : ∃ S1, tT false s = S1 := ⟨_, rfl⟩
    obtain ⟨S2, hS2⟩ : ∃ S2, tT false t = S2 := ⟨_, rfl⟩
    have HS1 := Lib.hid hS1
    have HS2 := Lib.hid hS2
    clear hS1 hS2 z1 z2
    go_enter Try.func28, Try.ntmps28
    go_wp2_with (go_at_call 24; refine (rturn_any false s HF1.out _ _ HX1.out).mono ?_)
    first
      | rintro _ w2 u1 rfl hsg hb2
      | rintro _ w2 ⟨u1, rfl, hsg, hb2⟩
    rw [HS1.out] at hsg
    rw [HEV1.out]
    obtain ⟨fA8, dA8, bA8, nA8, fC8, dC8, bC8, nC8, rfl⟩ := hsg.shape
    have HT2 := Lib.hid (HT.out.more (show Below _ _ _ by first | exact hb2 | (rw [size_alloc, size_alloc]; exact hb2)))
    have HSG := Lib.hid hsg
    clear hb2 hsg HX1
    go_upto_region 2 with fail
    have hn := below_new w2 (.cells #[.int .i64 S1.c, .int .i64 S1.w, .bool S1.big, .slice fA8 S1.fs.length fC8, .slice dA8 S1.ds.length dC8, .slice bA8 S1.bs.length bC8, .slice nA8 S1.ns.length nC8] 28)
    have hx := Bx.new w2 28 #[.int .i64 S1.c, .int .i64 S1.w, .bool S1.big, .slice fA8 S1.fs.length fC8, .slice dA8 S1.ds.length dC8, .slice bA8 S1.bs.length bC8, .slice nA8 S1.ns.length nC8]
    generalize hw3 : (w2.alloc (.cells #[.int .i64 S1.c, .int .i64 S1.w, .bool S1.big, .slice fA8 S1.fs.length fC8, .slice dA8 S1.ds.length dC8, .slice bA8 S1.bs.length bC8, .slice nA8 S1.ns.length nC8] 28)) = w3 at hn hx
    clear hw3
    have HT3 := Lib.hid (HT2.out.more hn)
    have HB3 := Lib.hid hx
    have HSG3 := Lib.hid ((HSG.out.later hn).up hn.size)
    clear hx hn
    have d0 : w3.cell? ⟨w.heap.size + 1, 0, none⟩ = some (.int .i64 t.c) := HT3.out.b2.cell 0
    have d1 : w3.cell? ⟨w.heap.size + 1, 1, none⟩ = some (.int .i64 t.w) := HT3.out.b2.cell 1
    have d2 : w3.cell? ⟨w.heap.size + 1, 2, none⟩ = some (.bool t.big) := HT3.out.b2.cell 2
    have d3 : w3.cell? ⟨w.heap.size + 1, 3, none⟩ = some (.slice fA2 t.fs.length fC2) := HT3.out.b2.cell 3
    have d4 : w3.cell? ⟨w.heap.size + 1, 4, none⟩ = some (.slice dA2 t.ds.length dC2) := HT3.out.b2.cell 4
    have d5 : w3.cell? ⟨w.heap.size + 1, 5, none⟩ = some (.slice bA2 t.bs.length bC2) := HT3.out.b2.cell 5
    have d6 : w3.cell? ⟨w.heap.size + 1, 6, none⟩ = some (.slice nA2 t.ns.length nC2) := HT3.out.b2.cell 6
    go_wp2_with (go_at_call 24; refine (rturn_any false t HF2.out _ w3 ((H2.out.later HT3.out.be).up HT3.out.be.size)).mono ?_)
    first
      | rintro _ w4 u2 rfl hsg hb4
      | rintro _ w4 ⟨u2, rfl, hsg, hb4⟩
    rw [HS2.out] at hsg
    rw [HEV2.out]
    obtain ⟨fA7, dA7, bA7, nA7, fC7, dC7, bC7, nC7, rfl⟩ := hsg.shape
    have HT4 := Lib.hid (HT3.out.more hb4)
    have HB4 := Lib.hid (HB3.out.later hb4 HB3.out.lt)
    have HSG4 := Lib.hid ((HSG3.out.later hb4).up hb4.size)
    have HR4 := Lib.hid hsg
    clear hsg hb4 d0 d1 d2 d3 d4 d5 d6
    go_upto_region 3 with fail
    have hn := below_new w4 (.cells #[.int .i64 S2.c, .int .i64 S2.w, .bool S2.big, .slice fA7 S2.fs.length fC7, .slice dA7 S2.ds.length dC7, .slice bA7 S2.bs.length bC7, .slice nA7 S2.ns.length nC7] 28)
    have hx := Bx.new w4 28 #[.int .i64 S2.c, .int .i64 S2.w, .bool S2.big, .slice fA7 S2.fs.length fC7, .slice dA7 S2.ds.length dC7, .slice bA7 S2.bs.length bC7, .slice nA7 S2.ns.length nC7]
    generalize hw5 : (w4.alloc (.cells #[.int .i64 S2.c, .int .i64 S2.w, .bool S2.big, .slice fA7 S2.fs.length fC7, .slice dA7 S2.ds.length dC7, .slice bA7 S2.bs.length bC7, .slice nA7 S2.ns.length nC7] 28)) = w5 at hn hx
    clear hw5
    have HT5 := Lib.hid (HT4.out.more hn)
    clear hx hn
    go_wp2
    go_ret
    exact ⟨false, rfl, by simp; exact HR.out, HT5.out.be⟩
  have HEV2 := Lib.hid (show errV t = 0 from if_neg z2)
  by_cases z3 : tn false s = tn false t
  · have HR := Lib.hid (show Swp s t from ⟨z1, z2, z3⟩)
    obtain ⟨S1, hS1⟩ : ∃ S1, tT false s = S1 := ⟨_, rfl⟩
    obtain ⟨S2, hS2⟩ : ∃ S2, tT false t = S2 := ⟨_, rfl⟩
    have HEQ := Lib.hid (show S1 = S2 from by rw [← hS1, ← hS2, tT, tT, if_neg z1, if_neg z2]; exact z3)
    have HS1 := Lib.hid hS1
    have HS2 := Lib.hid hS2
    clear hS1 hS2 z1 z2 z3
    go_enter Try.func28, Try.ntmps28
    go_wp2_with (go_at_call 24; refine (rturn_any false s HF1.out _ _ HX1.out).mono ?_)
    first
      | rintro _ w2 u1 rfl hsg hb2
      | rintro _ w2 ⟨u1, rfl, hsg, hb2⟩
    rw [HS1.out] at hsg
    rw [HEV1.out]
    obtain ⟨fA8, dA8, bA8, nA8, fC8, dC8, bC8, nC8, rfl⟩ := hsg.shape
    have HT2 := Lib.hid (HT.out.more (show Below _ _ _ by first | exact hb2 | (rw [size_alloc, size_alloc]; exact hb2)))
    have HSG := Lib.hid hsg
    clear hb2 hsg HX1
    go_upto_region 2 with fail
    have hn := below_new w2 (.cells #[.int .i64 S1.c, .int .i64 S1.w, .bool S1.big, .slice fA8 S1.fs.length fC8, .slice dA8 S1.ds.length dC8, .slice bA8 S1.bs.length bC8, .slice nA8 S1.ns.length nC8] 28)
    have hx := Bx.new w2 28 #[.int .i64 S1.c, .int .i64 S1.w, .bool S1.big, .slice fA8 S1.fs.length fC8, .slice dA8 S1.ds.length dC8, .slice bA8 S1.bs.length bC8, .slice nA8 S1.ns.length nC8]
    generalize hw3 : (w2.alloc (.cells #[.int .i64 S1.c, .int .i64 S1.w, .bool S1.big, .slice fA8 S1.fs.length fC8, .slice dA8 S1.ds.length dC8, .slice bA8 S1.bs.length bC8, .slice nA8 S1.ns.length nC8] 28)) = w3 at hn hx
    clear hw3
    have HT3 := Lib.hid (HT2.out.more hn)
    have HB3 := Lib.hid hx
    have HSG3 := Lib.hid ((HSG.out.later hn).up hn.size)
    clear hx hn
    have d0 : w3.cell? ⟨w.heap.size + 1, 0, none⟩ = some (.int .i64 t.c) := HT3.out.b2.cell 0
    have d1 : w3.cell? ⟨w.heap.size + 1, 1, none⟩ = some (.int .i64 t.w) := HT3.out.b2.cell 1
    have d2 : w3.cell? ⟨w.heap.size + 1, 2, none⟩ = some (.bool t.big) := HT3.out.b2.cell 2
    have d3 : w3.cell? ⟨w.heap.size + 1, 3, none⟩ = some (.slice fA2 t.fs.length fC2) := HT3.out.b2.cell 3
    have d4 : w3.cell? ⟨w.heap.size + 1, 4, none⟩ = some (.slice dA2 t.ds.length dC2) := HT3.out.b2.cell 4
    have d5 : w3.cell? ⟨w.heap.size + 1, 5, none⟩ = some (.slice bA2 t.bs.length bC2) := HT3.out.b2.cell 5
    have d6 : w3.cell? ⟨w.heap.size + 1, 6, none⟩ = some (.slice nA2 t.ns.length nC2) := HT3.out.b2.cell 6
    go_wp2_with (go_at_call 24; refine (rturn_any false t HF2.out _ w3 ((H2.out.later HT3.out.be).up HT3.out.be.size)).mono ?_)
    first
      | rintro _ w4 u2 rfl hsg hb4
      | rintro _ w4 ⟨u2, rfl, hsg, hb4⟩
    rw [HS2.out] at hsg
    rw [HEV2.out]
    obtain ⟨fA7, dA7, bA7, nA7, fC7, dC7, bC7, nC7, rfl⟩ := hsg.shape
    have HT4 := Lib.hid (HT3.out.more hb4)
    have HB4 := Lib.hid (HB3.out.later hb4 HB3.out.lt)
    have HSG4 := Lib.hid ((HSG3.out.later hb4).up hb4.size)
    have HR4 := Lib.hid hsg
    clear hsg hb4 d0 d1 d2 d3 d4 d5 d6
    go_upto_region 3 with fail
    have hn := below_new w4 (.cells #[.int .i64 S2.c, .int .i64 S2.w, .bool S2.big, .slice fA7 S2.fs.length fC7, .slice dA7 S2.ds.length dC7, .slice bA7 S2.bs.length bC7, .slice nA7 S2.ns.length nC7] 28)
    have hx := Bx.new w4 28 #[.int .i64 S2.c, .int .i64 S2.w, .bool S2.big, .slice fA7 S2.fs.length fC7, .slice dA7 S2.ds.length dC7, .slice bA7 S2.bs.length bC7, .slice nA7 S2.ns.length nC7]
    generalize hw5 : (w4.alloc (.cells #[.int .i64 S2.c, .int .i64 S2.w, .bool S2.big, .slice fA7 S2.fs.length fC7, .slice dA7 S2.ds.length dC7, .slice bA7 S2.bs.length bC7, .slice nA7 S2.ns.length nC7] 28)) = w5 at hn hx
    clear hw5
    have HT5 := Lib.hid (HT4.out.more hn)
    have hbx := HB4.out.later hn HB4.out.lt
    have HSG5 := Lib.hid ((HSG4.out.later hn).up hn.size)
    have HR5 := Lib.hid ((HR4.out.later hn).up hn.size)
    have c0 : w5.cell? ⟨w2.heap.size, 0, none⟩ = some (.int .i64 S1.c) := hbx.cell 0
    have c1 : w5.cell? ⟨w2.heap.size, 1, none⟩ = some (.int .i64 S1.w) := hbx.cell 1
    have c2 : w5.cell? ⟨w2.heap.size, 2, none⟩ = some (.bool S1.big) := hbx.cell 2
    have c3 : w5.cell? ⟨w2.heap.size, 3, none⟩ = some (.slice fA8 S1.fs.length fC8) := hbx.cell 3
    have c4 : w5.cell? ⟨w2.heap.size, 4, none⟩ = some (.slice dA8 S1.ds.length dC8) := hbx.cell 4
    have c5 : w5.cell? ⟨w2.heap.size, 5, none⟩ = some (.slice bA8 S1.bs.length bC8) := hbx.cell 5
    have c6 : w5.cell? ⟨w2.heap.size, 6, none⟩ = some (.slice nA8 S1.ns.length nC8) := hbx.cell 6
    have d0 : w5.cell? ⟨w4.heap.size, 0, none⟩ = some (.int .i64 S2.c) := hx.cell 0
    have d1 : w5.cell? ⟨w4.heap.size, 1, none⟩ = some (.int .i64 S2.w) := hx.cell 1
    have d2 : w5.cell? ⟨w4.heap.size, 2, none⟩ = some (.bool S2.big) := hx.cell 2
    have d3 : w5.cell? ⟨w4.heap.size, 3, none⟩ = some (.slice fA7 S2.fs.length fC7) := hx.cell 3
    have d4 : w5.cell? ⟨w4.heap.size, 4, none⟩ = some (.slice dA7 S2.ds.length dC7) := hx.cell 4
    have d5 : w5.cell? ⟨w4.heap.size, 5, none⟩ = some (.slice bA7 S2.bs.length bC7) := hx.cell 5
    have d6 : w5.cell? ⟨w4.heap.size, 6, none⟩ = some (.slice nA7 S2.ns.length nC7) := hx.cell 6
    clear hx hn hbx
    go_wp2_with (go_at_call 18; refine (yes_of (rsame_any S1 S2 _ _ _ HSG5.out HR5.out) HEQ.out).mono ?_)
    first
      | rintro _ w6 rfl hb6
      | rintro _ w6 ⟨rfl, hb6⟩
    have HT6 := Lib.hid (HT5.out.more hb6)
    clear hb6 c0 d0 c1 d1 c2 d2 c3 d3 c4 d4 c5 d5 c6 d6
    go_wp2
    go_ret
    exact ⟨true, rfl, by simp; exact HR.out, HT6.out.be⟩
  · have HR := Lib.hid (show ¬ Swp s t from fun h => z3 h.2.2)
    obtain ⟨S1, hS1⟩ : ∃ S1, tT false s = S1 := ⟨_, rfl⟩
    obtain ⟨S2, hS2⟩ : ∃ S2, tT false t = S2 := ⟨_, rfl⟩
    have HEQ := Lib.hid (show S1 ≠ S2 from by rw [← hS1, ← hS2, tT, tT, if_neg z1, if_neg z2]; exact z3)
    have HS1 := Lib.hid hS1
    have HS2 := Lib.hid hS2
    clear hS1 hS2 z1 z2 z3
    go_enter Try.func28, Try.ntmps28
    go_wp2_with (go_at_call 24; refine (rturn_any false s HF1.out _ _ HX1.out).mono ?_)
    first
      | rintro _ w2 u1 rfl hsg hb2
      | rintro _ w2 ⟨u1, rfl, hsg, hb2⟩
    rw [HS1.out] at hsg
    rw [HEV1.out]
    obtain ⟨fA8, dA8, bA8, nA8, fC8, dC8, bC8, nC8, rfl⟩ := hsg.shape
    have HT2 := Lib.hid (HT.out.more (show Below _ _ _ by first | exact hb2 | (rw [size_alloc, size_alloc]; exact hb2)))
    have HSG := Lib.hid hsg
    clear hb2 hsg HX1
    go_upto_region 2 with fail
    have hn := below_new w2 (.cells #[.int .i64 S1.c, .int .i64 S1.w, .bool S1.big, .slice fA8 S1.fs.length fC8, .slice dA8 S1.ds.length dC8, .slice bA8 S1.bs.length bC8, .slice nA8 S1.ns.length nC8] 28)
    have hx := Bx.new w2 28 #[.int .i64 S1.c, .int .i64 S1.w, .bool S1.big, .slice fA8 S1.fs.length fC8, .slice dA8 S1.ds.length dC8, .slice bA8 S1.bs.length bC8, .slice nA8 S1.ns.length nC8]
    generalize hw3 : (w2.alloc (.cells #[.int .i64 S1.c, .int .i64 S1.w, .bool S1.big, .slice fA8 S1.fs.length fC8, .slice dA8 S1.ds.length dC8, .slice bA8 S1.bs.length bC8, .slice nA8 S1.ns.length nC8] 28)) = w3 at hn hx
    clear hw3
    have HT3 := Lib.hid (HT2.out.more hn)
    have HB3 := Lib.hid hx
    have HSG3 := Lib.hid ((HSG.out.later hn).up hn.size)
    clear hx hn
    have d0 : w3.cell? ⟨w.heap.size + 1, 0, none⟩ = some (.int .i64 t.c) := HT3.out.b2.cell 0
    have d1 : w3.cell? ⟨w.heap.size + 1, 1, none⟩ = some (.int .i64 t.w) := HT3.out.b2.cell 1
    have d2 : w3.cell? ⟨w.heap.size + 1, 2, none⟩ = some (.bool t.big) := HT3.out.b2.cell 2
    have d3 : w3.cell? ⟨w.heap.size + 1, 3, none⟩ = some (.slice fA2 t.fs.length fC2) := HT3.out.b2.cell 3
    have d4 : w3.cell? ⟨w.heap.size + 1, 4, none⟩ = some (.slice dA2 t.ds.length dC2) := HT3.out.b2.cell 4
    have d5 : w3.cell? ⟨w.heap.size + 1, 5, none⟩ = some (.slice bA2 t.bs.length bC2) := HT3.out.b2.cell 5
    have d6 : w3.cell? ⟨w.heap.size + 1, 6, none⟩ = some (.slice nA2 t.ns.length nC2) := HT3.out.b2.cell 6
    go_wp2_with (go_at_call 24; refine (rturn_any false t HF2.out _ w3 ((H2.out.later HT3.out.be).up HT3.out.be.size)).mono ?_)
    first
      | rintro _ w4 u2 rfl hsg hb4
      | rintro _ w4 ⟨u2, rfl, hsg, hb4⟩
    rw [HS2.out] at hsg
    rw [HEV2.out]
    obtain ⟨fA7, dA7, bA7, nA7, fC7, dC7, bC7, nC7, rfl⟩ := hsg.shape
    have HT4 := Lib.hid (HT3.out.more hb4)
    have HB4 := Lib.hid (HB3.out.later hb4 HB3.out.lt)
    have HSG4 := Lib.hid ((HSG3.out.later hb4).up hb4.size)
    have HR4 := Lib.hid hsg
    clear hsg hb4 d0 d1 d2 d3 d4 d5 d6
    go_upto_region 3 with fail
    have hn := below_new w4 (.cells #[.int .i64 S2.c, .int .i64 S2.w, .bool S2.big, .slice fA7 S2.fs.length fC7, .slice dA7 S2.ds.length dC7, .slice bA7 S2.bs.length bC7, .slice nA7 S2.ns.length nC7] 28)
    have hx := Bx.new w4 28 #[.int .i64 S2.c, .int .i64 S2.w, .bool S2.big, .slice fA7 S2.fs.length fC7, .slice dA7 S2.ds.length dC7, .slice bA7 S2.bs.length bC7, .slice nA7 S2.ns.length nC7]
    generalize hw5 : (w4.alloc (.cells #[.int .i64 S2.c, .int .i64 S2.w, .bool S2.big, .slice fA7 S2.fs.length fC7, .slice dA7 S2.ds.length dC7, .slice bA7 S2.bs.length bC7, .slice nA7 S2.ns.length nC7] 28)) = w5 at hn hx
    clear hw5
    have HT5 := Lib.hid (HT4.out.more hn)
    have hbx := HB4.out.later hn HB4.out.lt
    have HSG5 := Lib.hid ((HSG4.out.later hn).up hn.size)
    have HR5 := Lib.hid ((HR4.out.later hn).up hn.size)
    have c0 : w5.cell? ⟨w2.heap.size, 0, none⟩ = some (.int .i64 S1.c) := hbx.cell 0
    have c1 : w5.cell? ⟨w2.heap.size, 1, none⟩ = some (.int .i64 S1.w) := hbx.cell 1
    have c2 : w5.cell? ⟨w2.heap.size, 2, none⟩ = some (.bool S1.big) := hbx.cell 2
    have c3 : w5.cell? ⟨w2.heap.size, 3, none⟩ = some (.slice fA8 S1.fs.length fC8) := hbx.cell 3
    have c4 : w5.cell? ⟨w2.heap.size, 4, none⟩ = some (.slice dA8 S1.ds.length dC8) := hbx.cell 4
    have c5 : w5.cell? ⟨w2.heap.size, 5, none⟩ = some (.slice bA8 S1.bs.length bC8) := hbx.cell 5
    have c6 : w5.cell? ⟨w2.heap.size, 6, none⟩ = some (.slice nA8 S1.ns.length nC8) := hbx.cell 6
    have d0 : w5.cell? ⟨w4.heap.size, 0, none⟩ = some (.int .i64 S2.c) := hx.cell 0
    have d1 : w5.cell? ⟨w4.heap.size, 1, none⟩ = some (.int .i64 S2.w) := hx.cell 1
    have d2 : w5.cell? ⟨w4.heap.size, 2, none⟩ = some (.bool S2.big) := hx.cell 2
    have d3 : w5.cell? ⟨w4.heap.size, 3, none⟩ = some (.slice fA7 S2.fs.length fC7) := hx.cell 3
    have d4 : w5.cell? ⟨w4.heap.size, 4, none⟩ = some (.slice dA7 S2.ds.length dC7) := hx.cell 4
    have d5 : w5.cell? ⟨w4.heap.size, 5, none⟩ = some (.slice bA7 S2.bs.length bC7) := hx.cell 5
    have d6 : w5.cell? ⟨w4.heap.size, 6, none⟩ = some (.slice nA7 S2.ns.length nC7) := hx.cell 6
    clear hx hn hbx
    go_wp2_with (go_at_call 18; refine (no_of (rsame_any S1 S2 _ _ _ HSG5.out HR5.out) HEQ.out).mono ?_)
    first
      | rintro _ w6 rfl hb6
      | rintro _ w6 ⟨rfl, hb6⟩
    have HT6 := Lib.hid (HT5.out.more hb6)
    clear hb6 c0 d0 c1 d1 c2 d2 c3 d3 c4 d4 c5 d5 c6 d6
    go_wp2
    go_ret
    exact ⟨false, rfl, by simp; exact HR.out, HT6.out.be⟩
end Go.Proofs.Ytbdhihgokkcmfaa.Ty9

