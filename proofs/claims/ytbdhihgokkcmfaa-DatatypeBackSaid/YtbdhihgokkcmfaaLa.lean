/- A type's bytes: plainly; the program's lay at a number. -/
import Derived.Test.YtbdhihgokkcmfaaOf
import Derived.Test.YtbdhihgokkcmfaaPk
namespace Go.Proofs.Ytbdhihgokkcmfaa.Ty9
set_option linter.unusedVariables false
set_option linter.unusedSimpArgs false
open Go.RowKit Wd

def lbm (ns : List (ByteArray × Int)) : List Nat := ns.flatMap fun m => digs 4 true m.1.size ++ sbytes m.1 ++ digs 8 true (bits64 m.2)
def lbd (ds : List Int) : List Nat := ds.flatMap fun d => digs 2 true (bits64 d)
mutual
/-- A type's bytes. -/
def lb : Ty → List Nat
  | .mk c w b fs ds bs ns => c.toNat :: (if c = 5 then digs 2 true (bits64 w) ++ digs 1 true (bits64 fs.length) ++ lbf fs else if c = 6 then digs 1 true (bits64 ds.length) ++ lbd ds ++ lbb bs
      else if c = 7 then lbb bs ++ digs 1 true (bits64 ns.length) ++ lbm ns else [w.toNat, if b then 1 else 0])
def lbf : List Fd → List Nat
  | [] => []
  | .mk n p t :: fs => digs 4 true n.size ++ sbytes n ++ digs 2 true (bits64 p) ++ lb t ++ lbf fs
def lbb : List Ty → List Nat
  | [] => []
  | x :: _ => lb x
end
theorem lbf_cons (f : Fd) (fs : List Fd) : lbf (f :: fs) = digs 4 true f.name.size ++ sbytes f.name ++ digs 2 true (bits64 f.pos) ++ lb f.ty ++ lbf fs := by
  cases f; rfl
theorem lb_num {t : Ty} (h5 : t.c ≠ 5) (h6 : t.c ≠ 6) (h7 : t.c ≠ 7) : lb t = t.c.toNat :: [t.w.toNat, if t.big then 1 else 0] := by
  cases t with
  | mk c w b fs ds bs ns =>
    change c ≠ 5 at h5
    change c ≠ 6 at h6
    change c ≠ 7 at h7
    rw [lb, if_neg h5, if_neg h6, if_neg h7]; rfl
theorem lb_comp {t : Ty} (h5 : t.c = 5) : lb t = 5 :: (digs 2 true (bits64 t.w) ++ digs 1 true (bits64 t.fs.length) ++ lbf t.fs) := by
  cases t with
  | mk c w b fs ds bs ns => change c = 5 at h5; subst h5; rw [lb, if_pos rfl]; rfl
theorem lb_arr {t : Ty} (h6 : t.c = 6) {b : Ty} (hb : t.bs = [b]) : lb t = 6 :: (digs 1 true (bits64 t.ds.length) ++ lbd t.ds ++ lb b) := by
  cases t with
  | mk c w bg fs ds bs ns => change c = 6 at h6; subst h6; obtain rfl : bs = [b] := hb; rw [lb, if_neg (by omega), if_pos rfl]; rfl
theorem lb_enum {t : Ty} (h7 : t.c = 7) {b : Ty} (hb : t.bs = [b]) : lb t = 7 :: (lb b ++ digs 1 true (bits64 t.ns.length) ++ lbm t.ns) := by
  cases t with
  | mk c w bg fs ds bs ns => change c = 7 at h7; subst h7; obtain rfl : bs = [b] := hb; rw [lb, if_neg (by omega), if_neg (by omega), if_pos rfl]; rfl

set_option maxHeartbeats 2000000 in
set_option maxRecDepth 100000 in
theorem lay_num (base : Nat) (c wd : Nat) (bg : Bool) (f d b n : Value) (V : Value) (bs : List Nat) (w : World)
    (hc1 : 1 ≤ c) (hc4 : c ≤ 4) (hw : wd ≤ 8) (hl : bs.length ≤ 140737488000000) (hbase : base ≤ w.heap.size) (ho : w.ownsRow base 5 1 V bs.length (by8 bs)) (hlt : ∀ y ∈ bs, y < 256)
    (hf : ∃ a l c, f = .slice a l c) (hd : ∃ a l c, d = .slice a l c) (hbb : ∃ a l c, b = .slice a l c) (hn : ∃ a l c, n = .slice a l c) :
    Calls Try.prog 37 #[V, .agg #[.int .i64 c, .int .i64 wd, .bool bg, f, d, b, n]] w (LP base V (bs ++ [c, wd, if bg then 1 else 0]) w) := by
  obtain ⟨fa, fl, fc, rfl⟩ := hf
  obtain ⟨da, dl, dc, rfl⟩ := hd
  obtain ⟨ba, bl, bc, rfl⟩ := hbb
  obtain ⟨na, nl, nc, rfl⟩ := hn
  obtain ⟨A, C, rfl⟩ := own_form ho
  generalize hY : bs ++ [c, wd, if bg then 1 else 0] = ys
  have HY := Lib.hid hY
  clear hY
  have c5 : ((c : Int) == 5) = false := beq_eq_false_iff_ne.mpr (by omega)
  have c6 : ((c : Int) == 6) = false := beq_eq_false_iff_ne.mpr (by omega)
  have c7 : ((c : Int) == 7) = false := beq_eq_false_iff_ne.mpr (by omega)
  have HBX := Lib.hid (Bx.new w 28 #[.int .i64 c, .int .i64 wd, .bool bg, .slice fa fl fc, .slice da dl dc, .slice ba bl bc, .slice na nl nc])
  have HBN := Lib.hid (below_new w (.cells #[.int .i64 c, .int .i64 wd, .bool bg, .slice fa fl fc, .slice da dl dc, .slice ba bl bc, .slice na nl nc] 28))
  have HR0 := Lib.hid ((Rl.refl ho hlt).below HBN.out)
  have hsz := size_alloc w (.cells #[.int .i64 c, .int .i64 wd, .bool bg, .slice fa fl fc, .slice da dl dc, .slice ba bl bc, .slice na nl nc] 28)
  have HR1 := Lib.hid (HR0.out.below (below_new _ (.cells (by8 [c]).toArray 5)))
  have hby := Byt.lit (w.alloc (.cells #[.int .i64 c, .int .i64 wd, .bool bg, .slice fa fl fc, .slice da dl dc, .slice ba bl bc, .slice na nl nc] 28)) [c] (by intro x hx; rw [List.mem_singleton] at hx; omega)
  rw [hsz] at hby
  have HBY := Lib.hid hby
  have HLT := Lib.hid hlt
  have HO := Lib.hid ho.lt
  have HNE := Lib.hid (show some w.heap.size ≠ (Value.slice A bs.length C).ownBlock from fun e => absurd (ho.lt _ e.symm).2 (Nat.lt_irrefl _))
  have hBB : base ≤ ((w.alloc (.cells #[.int .i64 c, .int .i64 wd, .bool bg, .slice fa fl fc, .slice da dl dc, .slice ba bl bc, .slice na nl nc] 28)).alloc (.cells (by8 [c]).toArray 5)).heap.size := by
    rw [size_alloc, size_alloc]; omega
  have HBB := Lib.hid hBB
  clear hsz hby hlt ho hBB
  go_enter Try.func37, Try.ntmps37
  go_wp2_with (at_builtin; refine wp_app rfl (.tmp 11) (.tmp 15) rfl base 1 1 (.slice A bs.length C) bs [c] (some ⟨w.heap.size + 1, 0, none⟩) _ rfl rfl HR1.out.own HLT.out HBY.out (by omega) HBB.out ?_; intro V1 w1 hr1; refine Hid.out ?_)
  have HR2 := Lib.hid (HR1.out.trans hr1)
  have hbx1 := hr1.bx (HBX.out.later (below_new _ (.cells (by8 [c]).toArray 5)) (by rw [size_alloc]; exact Nat.lt_succ_self _)) HNE.out
  have b0 := hbx1.cell 0
  have b1 := hbx1.cell 1
  have b2 := hbx1.cell 2
  have HNE1 := Lib.hid (hr1.ne (by rw [size_alloc, size_alloc]; omega) HNE.out)
  have hs1 := hr1.gr.size
  rw [size_alloc, size_alloc] at hs1
  obtain ⟨A1, C1, rfl⟩ := own_form hr1.own
  have HBX1 := Lib.hid hbx1
  clear hr1 hbx1
  have HR3 := Lib.hid (HR2.out.below (below_new _ (.cells (by8 [wd, 0]).toArray 5)))
  have HBY2 := Lib.hid (Byt.lit w1 [wd, 0] (by intro x hx; simp at hx; omega))
  have HBB2 := Lib.hid (show base ≤ (w1.alloc (.cells (by8 [wd, 0]).toArray 5)).heap.size by rw [size_alloc]; omega)
  have hl2 : (bs ++ [c]).length + 2 ≤ 140737488355328 := by rw [List.length_append]; show bs.length + 1 + 2 ≤ _; omega
  have HL2 := Lib.hid hl2
  clear hl2
  refine go_on ?_
  go_wp2_with (at_builtin; refine wp_app rfl (.tmp 19) (.tmp 23) rfl base 2 2 (.slice A1 (bs ++ [c]).length C1) (bs ++ [c]) [wd, 0] (some ⟨w1.heap.size, 0, none⟩) _ rfl rfl HR3.out.own HR3.out.lt HBY2.out HL2.out HBB2.out ?_; intro V2 w2 hr2; refine Hid.out ?_)
  have hbx2 := hr2.bx (HBX1.out.later (below_new _ (.cells (by8 [wd, 0]).toArray 5)) HBX1.out.lt) HNE1.out
  have b2 := hbx2.cell 2
  have hr4 := HR3.out.trans hr2
  obtain ⟨g, cap, rfl, hg1, hg2⟩ := hr4.form (by rw [List.length_append]; show 0 < _ + 2; omega)
  have hlen : (bs ++ [c] ++ [wd, 0]).length = bs.length + 3 := by simp
  have c0 : w2.cell? ⟨g, bs.length + 2, none⟩ = some (.int .u8 0) := by
    have h := hr4.cellAt rfl (bs.length + 2) (by rw [hlen]; omega)
    simpa [List.getElem_append] using h
  have f0 := hr4.frozenAt rfl (bs.length + 2)
  rw [hlen] at hr4 ⊢
  have HR4 := Lib.hid hr4
  have HR5 := Lib.hid (hr4.set hlen.symm (bs.length + 2) 1 (by omega))
  clear hr4 hbx2 hlen hr2
  refine go_on ?_
  cases bg
  · go_wp2
    go_ret
    exact ⟨_, rfl, by rw [← HY.out]; simpa using HR4.out⟩
  · go_wp2
    go_ret
    refine ⟨_, rfl, ?_⟩
    have h := HR5.out
    have e : (bs ++ [c] ++ [wd, 0]).set (bs.length + 2) 1 = bs ++ [c, wd, 1] := by
      rw [List.append_assoc, List.set_append_right _ _ (by omega), Nat.add_sub_cancel_left]; rfl
    rw [e] at h
    rw [← HY.out]
    exact h
end Go.Proofs.Ytbdhihgokkcmfaa.Ty9
