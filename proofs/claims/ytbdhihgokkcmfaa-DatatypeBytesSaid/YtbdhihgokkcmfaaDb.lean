/- The reference's laid: numbers, compounds. -/
import Derived.Test.YtbdhihgokkcmfaaDa
import Derived.Test.YtbdhihgokkcmfaaLd
namespace Go.Proofs.Ytbdhihgokkcmfaa.Ty9
set_option linter.unusedVariables false
set_option linter.unusedSimpArgs false
open Go.RowKit Wd

theorem bits64_nat {n : Nat} (h : n ≤ 1000000) : bits64 (n : Int) = n := by unfold bits64; omega
theorem bits64_pos {x : Int} (h0 : 0 ≤ x) (h1 : x ≤ 9223372036854775807) : ((bits64 x : Nat) : Int) = x := by unfold bits64; omega
theorem bits64_wrap (x : Int) : IntKind.u64.wrap x = ((bits64 x : Nat) : Int) := by unfold bits64; simp [IntKind.wrap, IntKind.bits, IntKind.signed]; omega
theorem bits64_le (x : Int) : ((bits64 x : Nat) : Int) ≤ 18446744073709551615 := by unfold bits64; omega
theorem digs_one {n : Nat} (h : n < 256) : digs 1 true n = [n] := by
  simp [digs, dig, pos, List.range_succ]; omega
theorem digits_pos (n : Nat) (x : Int) (w : World) (hn : n ≤ 8) (h0 : 0 ≤ x) (h1 : x ≤ 9223372036854775807) :
    Calls Try.prog 58 #[.int .i64 n, .bool true, .int .u64 x] w fun e w' => ∃ V, e = .returned V ∧ RowB w' w.heap.size V (digs n true (bits64 x)) ∧ Below w.heap.size w w' := by
  have h := digits_any true n (bits64 x) w hn (bits64_le x)
  rw [bits64_pos h0 h1] at h
  exact h
def LaidOk (d : Nat) : Prop := ∀ (t : Ty) (v : Value) (w : World), sz d t ≠ 0 → TyAt w w.heap.size t v →
  Calls Try.prog 38 #[v] w fun e w' => ∃ V, e = .returned V ∧ RowB w' w.heap.size V (lb t) ∧ Below w.heap.size w w'

set_option maxHeartbeats 2000000 in
set_option maxRecDepth 100000 in
theorem laid_num (c wd : Nat) (bg : Bool) (f d b n : Value) (w : World) (hc1 : 1 ≤ c) (hc4 : c ≤ 4) (hw : wd ≤ 8) (hf : ∃ a l c, f = .slice a l c) (hd : ∃ a l c, d = .slice a l c) (hbb : ∃ a l c, b = .slice a l c) (hn : ∃ a l c, n = .slice a l c) :
    Calls Try.prog 38 #[.agg #[.int .i64 c, .int .i64 wd, .bool bg, f, d, b, n]] w fun e w' => ∃ V, e = .returned V ∧ RowB w' w.heap.size V [c, wd, if bg then 1 else 0] ∧ Below w.heap.size w w' := by
  obtain ⟨fa, fl, fc, rfl⟩ := hf
  obtain ⟨da, dl, dc, rfl⟩ := hd
  obtain ⟨ba, bl, bc, rfl⟩ := hbb
  obtain ⟨na, nl, nc, rfl⟩ := hn
  have c5 : ((c : Int) == 5) = false := beq_eq_false_iff_ne.mpr (by omega)
  have c6 : ((c : Int) == 6) = false := beq_eq_false_iff_ne.mpr (by omega)
  have c7 : ((c : Int) == 7) = false := beq_eq_false_iff_ne.mpr (by omega)
  have HBN := Lib.hid (below_new w (.cells #[.int .i64 c, .int .i64 wd, .bool bg, .slice fa fl fc, .slice da dl dc, .slice ba bl bc, .slice na nl nc] 28))
  have hsz := size_alloc w (.cells #[.int .i64 c, .int .i64 wd, .bool bg, .slice fa fl fc, .slice da dl dc, .slice ba bl bc, .slice na nl nc] 28)
  have hr := RowB.lit (w.alloc (.cells #[.int .i64 c, .int .i64 wd, .bool bg, .slice fa fl fc, .slice da dl dc, .slice ba bl bc, .slice na nl nc] 28)) [c] (by intro x hx; rw [List.mem_singleton] at hx; omega) (by simp) (base := w.heap.size) (by rw [hsz]; omega)
  rw [hsz] at hr
  have HR := Lib.hid hr
  have HBN2 := Lib.hid (below_more HBN.out (below_new (w.alloc (.cells #[.int .i64 c, .int .i64 wd, .bool bg, .slice fa fl fc, .slice da dl dc, .slice ba bl bc, .slice na nl nc] 28)) (.cells (by8 [c]).toArray 5)))
  have HSZ := Lib.hid hsz
  clear hr hsz
  have HR2 := Lib.hid fun b => HR.out.below (below_new _ (.cells (by8 [wd, b]).toArray 5))
  have hby := fun (b : Nat) (hb : b ≤ 1) => Byt.lit ((w.alloc (.cells #[.int .i64 c, .int .i64 wd, .bool bg, .slice fa fl fc, .slice da dl dc, .slice ba bl bc, .slice na nl nc] 28)).alloc (.cells (by8 [c]).toArray 5)) [wd, b] (by intro x hx; simp at hx; omega)
  rw [size_alloc, HSZ.out] at hby
  have HBY := Lib.hid hby
  clear hby
  cases bg
  all_goals
    go_enter Try.func38, Try.ntmps38
  · go_wp2_with (at_builtin; refine wp_rowb rfl (.tmp 17) (.tmp 22) rfl w.heap.size 2 2 _ [c] [wd, 0] (some ⟨w.heap.size + 1 + 1, 0, none⟩) _ rfl rfl (HR2.out 0) (HBY.out 0 (by omega)) (by show 1 + 2 ≤ _; omega) (by rw [size_alloc, size_alloc, HSZ.out]; omega) ?_; intro V2 w2 hrow2 hb2; refine Hid.out ?_)
    have HR3 := Lib.hid hrow2
    have HW3 := Lib.hid (HBN2.out.trans (((below_new _ (.cells (by8 [wd, 0]).toArray 5)).mono (by rw [size_alloc, HSZ.out]; omega)).trans hb2))
    clear hrow2 hb2
    refine go_on ?_
    go_wp2
    go_ret
    exact ⟨_, rfl, HR3.out, HW3.out⟩
  · go_wp2_with (at_builtin; refine wp_rowb rfl (.tmp 17) (.tmp 22) rfl w.heap.size 2 2 _ [c] [wd, 1] (some ⟨w.heap.size + 1 + 1, 0, none⟩) _ rfl rfl (HR2.out 1) (HBY.out 1 (by omega)) (by show 1 + 2 ≤ _; omega) (by rw [size_alloc, size_alloc, HSZ.out]; omega) ?_; intro V2 w2 hrow2 hb2; refine Hid.out ?_)
    have HR3 := Lib.hid hrow2
    have HW3 := Lib.hid (HBN2.out.trans (((below_new _ (.cells (by8 [wd, 1]).toArray 5)).mono (by rw [size_alloc, HSZ.out]; omega)).trans hb2))
    clear hrow2 hb2
    refine go_on ?_
    go_wp2
    go_ret
    exact ⟨_, rfl, HR3.out, HW3.out⟩
end Go.Proofs.Ytbdhihgokkcmfaa.Ty9
