/- slices.Equal, slices.EqualFunc at a type's rows; datatype.Same and the reference's Same at two types. -/
import Derived.Test.YtbdhihgokkcmfaaEa
import Derived.Lib.SlicesS
import Derived.Test.YtbdhihgokkcmfaaEb
namespace Go.Proofs.Ytbdhihgokkcmfaa.Ty9
set_option linter.unusedVariables false
set_option linter.unusedSimpArgs false
open Go.RowKit Wd

theorem list_eq_of {α : Type} {xs ys : List α} (hl : xs.length = ys.length) (h : ∀ i, i < xs.length → xs[i]? = ys[i]?) : xs = ys := by
  refine List.ext_getElem? fun i => ?_
  rcases Nat.lt_or_ge i xs.length with h1 | h1
  · exact h i h1
  · rw [List.getElem?_eq_none h1, List.getElem?_eq_none (by omega)]
theorem ne_of_at {α : Type} {xs ys : List α} {k : Nat} (h1 : k < xs.length) (h2 : k < ys.length) (h : xs[k] ≠ ys[k]) : xs ≠ ys := fun e => by
  subst e; exact h rfl

set_option maxHeartbeats 2000000 in
set_option maxRecDepth 100000 in
theorem eq_D (w : World) (A1 A2 : Option Addr) (ds es : List Int) (c1 c2 b1 o1 b2 o2 : Nat) (hd : ds.length ≤ 140737488355328) (hA1 : 0 < ds.length → A1 = some ⟨b1, o1, none⟩ ∧ b1 < w.heap.size) (hA2 : 0 < es.length → A2 = some ⟨b2, o2, none⟩ ∧ b2 < w.heap.size)
    (h1 : ∀ i (h : i < ds.length), w.cell? ⟨b1, o1 + i, none⟩ = some (.int .i64 ds[i])) (h2 : ∀ i (h : i < es.length), w.cell? ⟨b2, o2 + i, none⟩ = some (.int .i64 es[i])) :
    Calls Try.prog 41 #[.slice A1 ds.length c1, .slice A2 es.length c2] w fun e w' => ∃ b, e = .returned (.bool b) ∧ (b = true ↔ ds = es) ∧ Below w.heap.size w w' := by
  have H1 := Lib.hid h1
  have H2 := Lib.hid h2
  have HA1 := Lib.hid hA1
  have HA2 := Lib.hid hA2
  clear h1 h2 hA1 hA2
  by_cases hl : ds.length = es.length
  · rw [← hl]
    have HL := Lib.hid hl
    clear hl
    go_enter Try.func41, Try.ntmps41
    go_wp2
    go_loopw [13] (fun i wr => ∃ k : Nat, k ≤ ds.length ∧ i = .int .i64 k ∧ Below w.heap.size w wr ∧ ∀ i, i < k → ds[i]? = es[i]?) (fun i _ => ds.length - (intOf i).toNat)
    case atStart => exact ⟨0, Nat.zero_le _, rfl, Below.refl _ _, fun i h => absurd h (Nat.not_lt_zero _)⟩
    case round =>
      obtain ⟨k, hk, rfl, hb, hall⟩ := hrel
      have HB := Lib.hid hb
      have HALL := Lib.hid hall
      clear hb hall
      by_cases hlt : k < ds.length
      · have hlt2 : k < es.length := by have := HL.out; omega
        obtain ⟨rfl, hn1⟩ := HA1.out (by omega)
        obtain ⟨rfl, hn2⟩ := HA2.out (by omega)
        have g0 := (HB.out.cell (p := ⟨b1, o1 + k, none⟩) hn1).trans (H1.out k hlt)
        have r0 := (HB.out.cell (p := ⟨b2, o2 + k, none⟩) hn2).trans (H2.out k hlt2)
        have hkl : (k : Int) < (ds.length : Int) := by omega
        have hk0 : (0 : Int) ≤ (k : Int) := by omega
        by_cases he : ds[k] = es[k]
        · have HE := Lib.hid he
          rw [← he] at r0
          generalize ds[k] = x0 at g0 r0
          have n0 : (x0 != x0) = false := by simp
          clear he
          go_wp2
          go_quiet (fail)
          have HB2 := Lib.hid (below_drewN HB.out nq)
          clear g0 r0
          go_wp2
          go_roundw
          case rel => exact ⟨k + 1, by omega, by go_num, HB2.out, fun i hi => by
            rcases Nat.lt_or_ge i k with h | h
            · exact HALL.out i h
            · rw [show i = k by omega, List.getElem?_eq_getElem hlt, List.getElem?_eq_getElem hlt2, HE.out]⟩
          case measure => simp [intOf]; omega
        · have HE := Lib.hid (ne_of_at hlt hlt2 he)
          have n0 : (ds[k] != es[k]) = true := by simp [bne, he]
          generalize ds[k] = x0 at g0 n0
          generalize es[k] = y0 at r0 n0
          clear he
          go_wp2
          go_quiet (fail)
          have HB2 := Lib.hid (below_drewN HB.out nq)
          clear g0 r0
          go_wp2
          go_ret
          exact ⟨false, rfl, by simp [HE.out], HB2.out⟩
      · obtain rfl : k = ds.length := by omega
        go_wp2
        go_ret
        exact ⟨true, rfl, by simp; exact list_eq_of HL.out HALL.out, HB.out⟩
  · have n0 : ((ds.length : Int) != (es.length : Int)) = true := by simp [bne]; omega
    go_enter Try.func41, Try.ntmps41
    go_wp2
    go_ret
    exact ⟨false, rfl, by simp; intro e; exact hl (by rw [e]), Below.refl _ _⟩

set_option maxHeartbeats 2000000 in
set_option maxRecDepth 100000 in
theorem eq_N (w : World) (A1 A2 : Option Addr) (ds es : List (ByteArray × Int)) (c1 c2 b1 o1 b2 o2 : Nat) (hd : ds.length ≤ 140737488355328) (hA1 : 0 < ds.length → A1 = some ⟨b1, o1, none⟩ ∧ b1 < w.heap.size) (hA2 : 0 < es.length → A2 = some ⟨b2, o2, none⟩ ∧ b2 < w.heap.size)
    (h1 : ∀ i (h : i < ds.length), w.cell? ⟨b1, o1 + i * 2, none⟩ = some (.string ds[i].1)) (h1' : ∀ i (h : i < ds.length), w.cell? ⟨b1, o1 + i * 2 + 1, none⟩ = some (.int .i64 ds[i].2))
    (h2 : ∀ i (h : i < es.length), w.cell? ⟨b2, o2 + i * 2, none⟩ = some (.string es[i].1)) (h2' : ∀ i (h : i < es.length), w.cell? ⟨b2, o2 + i * 2 + 1, none⟩ = some (.int .i64 es[i].2)) :
    Calls Try.prog 42 #[.slice A1 ds.length c1, .slice A2 es.length c2] w fun e w' => ∃ b, e = .returned (.bool b) ∧ (b = true ↔ ds = es) ∧ Below w.heap.size w w' := by
  have H1 := Lib.hid h1
  have H2 := Lib.hid h2
  have H1' := Lib.hid h1'
  have H2' := Lib.hid h2'
  have HA1 := Lib.hid hA1
  have HA2 := Lib.hid hA2
  clear h1 h2 h1' h2' hA1 hA2
  by_cases hl : ds.length = es.length
  · rw [← hl]
    have HL := Lib.hid hl
    clear hl
    go_enter Try.func42, Try.ntmps42
    go_wp2
    go_loopw [13] (fun i wr => ∃ k : Nat, k ≤ ds.length ∧ i = .int .i64 k ∧ Below w.heap.size w wr ∧ ∀ i, i < k → ds[i]? = es[i]?) (fun i _ => ds.length - (intOf i).toNat)
    case atStart => exact ⟨0, Nat.zero_le _, rfl, Below.refl _ _, fun i h => absurd h (Nat.not_lt_zero _)⟩
    case round =>
      obtain ⟨k, hk, rfl, hb, hall⟩ := hrel
      have HB := Lib.hid hb
      have HALL := Lib.hid hall
      clear hb hall
      by_cases hlt : k < ds.length
      · have hlt2 : k < es.length := by have := HL.out; omega
        obtain ⟨rfl, hn1⟩ := HA1.out (by omega)
        obtain ⟨rfl, hn2⟩ := HA2.out (by omega)
        have g0 := (HB.out.cell (p := ⟨b1, o1 + k * 2, none⟩) hn1).trans (H1.out k hlt)
        have g1 := (HB.out.cell (p := ⟨b1, o1 + k * 2 + 1, none⟩) hn1).trans (H1'.out k hlt)
        have r0 := (HB.out.cell (p := ⟨b2, o2 + k * 2, none⟩) hn2).trans (H2.out k hlt2)
        have r1 := (HB.out.cell (p := ⟨b2, o2 + k * 2 + 1, none⟩) hn2).trans (H2'.out k hlt2)
        have hkl : (k : Int) < (ds.length : Int) := by omega
        have hk0 : (0 : Int) ≤ (k : Int) := by omega
        by_cases he : ds[k] = es[k]
        · have HE := Lib.hid he
          rw [← he] at r0 r1
          generalize ds[k].1 = x0 at g0 r0
          generalize ds[k].2 = x1 at g1 r1
          have n0 : (x1 != x1) = false := by simp
          have n1 : (x1 == x1) = true := by simp
          clear he
          go_wp2
          go_quiet (fail)
          have HB2 := Lib.hid (below_drewN HB.out nq)
          clear g0 r0 g1 r1
          go_wp2
          go_roundw
          case rel => exact ⟨k + 1, by omega, by go_num, HB2.out, fun i hi => by
            rcases Nat.lt_or_ge i k with h | h
            · exact HALL.out i h
            · rw [show i = k by omega, List.getElem?_eq_getElem hlt, List.getElem?_eq_getElem hlt2, HE.out]⟩
          case measure => simp [intOf]; omega
        · have HE := Lib.hid (ne_of_at hlt hlt2 he)
          have he2 : ¬ (ds[k].1 = es[k].1 ∧ ds[k].2 = es[k].2) := fun h => he (Prod.ext h.1 h.2)
          clear he
          generalize ds[k].1 = x0 at g0 he2
          generalize ds[k].2 = x1 at g1 he2
          generalize es[k].1 = y0 at r0 he2
          generalize es[k].2 = y1 at r1 he2
          by_cases hx : x0 = y0
          · subst hx
            have hy : x1 ≠ y1 := fun h => he2 ⟨rfl, h⟩
            have n0 : (x1 != y1) = true := by simp [bne, hy]
            have n1 : (x1 == y1) = false := by simp [hy]
            clear he2 hy
            go_wp2
            go_quiet (fail)
            have HB2 := Lib.hid (below_drewN HB.out nq)
            clear g0 r0 g1 r1
            go_wp2
            go_ret
            exact ⟨false, rfl, by simp [HE.out], HB2.out⟩
          · have n1 : (x0.toList == y0.toList) = false := (Go.Lib.bytes_beq_false_iff _ _).mpr hx
            have n0 : (x0.toList != y0.toList) = true := by simp only [bne, n1]; rfl
            clear he2
            go_wp2
            go_quiet (fail)
            have HB2 := Lib.hid (below_drewN HB.out nq)
            clear g0 r0 g1 r1
            go_wp2
            go_ret
            exact ⟨false, rfl, by simp [HE.out], HB2.out⟩
      · obtain rfl : k = ds.length := by omega
        go_wp2
        go_ret
        exact ⟨true, rfl, by simp; exact list_eq_of HL.out HALL.out, HB.out⟩
  · have n0 : ((ds.length : Int) != (es.length : Int)) = true := by simp [bne]; omega
    go_enter Try.func42, Try.ntmps42
    go_wp2
    go_ret
    exact ⟨false, rfl, by simp; intro e; exact hl (by rw [e]), Below.refl _ _⟩

theorem fd_eq {f g : Fd} : f = g ↔ f.name = g.name ∧ f.pos = g.pos ∧ f.ty = g.ty := by
  cases f; cases g
  simp [Fd.name, Fd.pos, Fd.ty]

/-- The contract of datatype.Same at one type. -/
def SameAt (x : Ty) : Prop := ∀ (y : Ty) (v u : Value) (w : World), TyAt w w.heap.size x v → TyAt w w.heap.size y u → Calls Try.prog 27 #[v, u] w fun e w' => ∃ b, e = .returned (.bool b) ∧ (b = true ↔ x = y) ∧ Below w.heap.size w w'

set_option maxHeartbeats 2000000 in
set_option maxRecDepth 100000 in
theorem same1 (n n' : ByteArray) (p p' : Int) (x y : Ty) (hS : SameAt x) (w : World) (fA dA bA nA fA2 dA2 bA2 nA2 : Option Addr) (fC dC bC nC fC2 dC2 bC2 nC2 : Nat)
    (ht : TyAt w w.heap.size x (.agg #[.int .i64 x.c, .int .i64 x.w, .bool x.big, .slice fA x.fs.length fC, .slice dA x.ds.length dC, .slice bA x.bs.length bC, .slice nA x.ns.length nC])) (hu : TyAt w w.heap.size y (.agg #[.int .i64 y.c, .int .i64 y.w, .bool y.big, .slice fA2 y.fs.length fC2, .slice dA2 y.ds.length dC2, .slice bA2 y.bs.length bC2, .slice nA2 y.ns.length nC2])) :
    Calls Try.prog 45 #[.agg #[.string n, .int .i64 p, .int .i64 x.c, .int .i64 x.w, .bool x.big, .slice fA x.fs.length fC, .slice dA x.ds.length dC, .slice bA x.bs.length bC, .slice nA x.ns.length nC], .agg #[.string n', .int .i64 p', .int .i64 y.c, .int .i64 y.w, .bool y.big, .slice fA2 y.fs.length fC2, .slice dA2 y.ds.length dC2, .slice bA2 y.bs.length bC2, .slice nA2 y.ns.length nC2]] w fun e w' => ∃ b, e = .returned (.bool b) ∧ (b = true ↔ n = n' ∧ p = p' ∧ x = y) ∧ Below w.heap.size w w' := by
  have HS := Lib.hid hS
  have hb := below_more (below_new w (.cells #[.string n, .int .i64 p, .int .i64 x.c, .int .i64 x.w, .bool x.big, .slice fA x.fs.length fC, .slice dA x.ds.length dC, .slice bA x.bs.length bC, .slice nA x.ns.length nC] 66)) (below_new (w.alloc (.cells #[.string n, .int .i64 p, .int .i64 x.c, .int .i64 x.w, .bool x.big, .slice fA x.fs.length fC, .slice dA x.ds.length dC, .slice bA x.bs.length bC, .slice nA x.ns.length nC] 66)) (.cells #[.string n', .int .i64 p', .int .i64 y.c, .int .i64 y.w, .bool y.big, .slice fA2 y.fs.length fC2, .slice dA2 y.ds.length dC2, .slice bA2 y.bs.length bC2, .slice nA2 y.ns.length nC2] 66))
  have HB := Lib.hid hb
  have HT := Lib.hid ((ht.later hb).up hb.size)
  have HU := Lib.hid ((hu.later hb).up hb.size)
  clear hS ht hu hb
  by_cases h1 : n = n'
  · subst h1
    by_cases h2 : p = p'
    · subst h2
      go_enter Try.func45, Try.ntmps45
      go_wp2_with (go_at_call 27; refine (HS.out y _ _ _ HT.out HU.out).mono ?_)
      first
        | rintro _ w2 b rfl hbe hb2
        | rintro _ w2 ⟨b, rfl, hbe, hb2⟩
      have HR := Lib.hid (show b = true ↔ n = n ∧ p = p ∧ x = y from hbe.trans ⟨fun h => ⟨rfl, rfl, h⟩, fun h => h.2.2⟩)
      have HB2 := Lib.hid (below_more HB.out hb2)
      clear hbe hb2
      go_wp2
      go_ret
      exact ⟨b, rfl, HR.out, HB2.out⟩
    · have n1 : (p == p') = false := by simp [h2]
      have HNE := Lib.hid h2
      clear h2
      go_enter Try.func45, Try.ntmps45
      go_wp2
      go_ret
      exact ⟨false, rfl, by simp [HNE.out], HB.out⟩
  · have HNE := Lib.hid h1
    have n1 : (n.toList == n'.toList) = false := (Go.Lib.bytes_beq_false_iff _ _).mpr h1
    clear h1
    go_enter Try.func45, Try.ntmps45
    go_wp2
    go_ret
    exact ⟨false, rfl, by simp [HNE.out], HB.out⟩

set_option maxHeartbeats 2000000 in
set_option maxRecDepth 100000 in
theorem eqf_B (xs ys : List Ty) (hS : ∀ x ∈ xs, SameAt x) (w : World) (A1 A2 : Option Addr) (c1 c2 m1 o1 m2 o2 : Nat) (v1 v2 : Nat → Nat → Value) (hd : xs.length ≤ 140737488355328) (hA1 : 0 < xs.length → A1 = some ⟨m1, o1, none⟩ ∧ m1 < w.heap.size) (hA2 : 0 < ys.length → A2 = some ⟨m2, o2, none⟩ ∧ m2 < w.heap.size)
    (p2 : ∀ i, i < xs.length → ∀ k, k < 7 → w.cell? ⟨m1, o1 + i * 7 + k, none⟩ = some (v1 i k)) (pt : ∀ i (h : i < xs.length), TyAt w w.heap.size xs[i] (.agg #[v1 i 0, v1 i 1, v1 i 2, v1 i 3, v1 i 4, v1 i 5, v1 i 6]))
    (q2 : ∀ i, i < ys.length → ∀ k, k < 7 → w.cell? ⟨m2, o2 + i * 7 + k, none⟩ = some (v2 i k)) (qt : ∀ i (h : i < ys.length), TyAt w w.heap.size ys[i] (.agg #[v2 i 0, v2 i 1, v2 i 2, v2 i 3, v2 i 4, v2 i 5, v2 i 6])) :
    Calls Try.prog 43 #[.slice A1 xs.length c1, .slice A2 ys.length c2, .func (.func 27) #[] #[]] w fun e w' => ∃ b, e = .returned (.bool b) ∧ (b = true ↔ xs = ys) ∧ Below w.heap.size w w' := by
  have HP2 := Lib.hid p2
  have HPT := Lib.hid pt
  have HQ2 := Lib.hid q2
  have HQT := Lib.hid qt
  have HS := Lib.hid hS
  have HA1 := Lib.hid hA1
  have HA2 := Lib.hid hA2
  clear p2 pt q2 qt hS hA1 hA2
  by_cases hl : xs.length = ys.length
  · rw [← hl]
    have HL := Lib.hid hl
    clear hl
    go_enter Try.func43, Try.ntmps43
    go_wp2
    go_loopw [17] (fun i wr => ∃ k : Nat, k ≤ xs.length ∧ i = .int .i64 k ∧ Below w.heap.size w wr ∧ ∀ i, i < k → xs[i]? = ys[i]?) (fun i _ => xs.length - (intOf i).toNat)
    case atStart => exact ⟨0, Nat.zero_le _, rfl, Below.refl _ _, fun i h => absurd h (Nat.not_lt_zero _)⟩
    case round =>
      obtain ⟨k, hk, rfl, hb, hall⟩ := hrel
      have HB := Lib.hid hb
      have HALL := Lib.hid hall
      clear hb hall
      by_cases hlt : k < xs.length
      · have hlt2 : k < ys.length := by have := HL.out; omega
        obtain ⟨rfl, hn1⟩ := HA1.out (by omega)
        obtain ⟨rfl, hn2⟩ := HA2.out (by omega)
        have hkl : (k : Int) < (xs.length : Int) := by omega
        have hk0 : (0 : Int) ≤ (k : Int) := by omega
        have a0 : wr.cell? ⟨m1, o1 + k * 7, none⟩ = some (v1 k 0) := (HB.out.cell (p := ⟨m1, _, none⟩) hn1).trans (HP2.out k hlt 0 (by omega))
        have a1 : wr.cell? ⟨m1, o1 + k * 7 + 1, none⟩ = some (v1 k 1) := (HB.out.cell (p := ⟨m1, _, none⟩) hn1).trans (HP2.out k hlt 1 (by omega))
        have a2 : wr.cell? ⟨m1, o1 + k * 7 + 2, none⟩ = some (v1 k 2) := (HB.out.cell (p := ⟨m1, _, none⟩) hn1).trans (HP2.out k hlt 2 (by omega))
        have a3 : wr.cell? ⟨m1, o1 + k * 7 + 3, none⟩ = some (v1 k 3) := (HB.out.cell (p := ⟨m1, _, none⟩) hn1).trans (HP2.out k hlt 3 (by omega))
        have a4 : wr.cell? ⟨m1, o1 + k * 7 + 4, none⟩ = some (v1 k 4) := (HB.out.cell (p := ⟨m1, _, none⟩) hn1).trans (HP2.out k hlt 4 (by omega))
        have a5 : wr.cell? ⟨m1, o1 + k * 7 + 5, none⟩ = some (v1 k 5) := (HB.out.cell (p := ⟨m1, _, none⟩) hn1).trans (HP2.out k hlt 5 (by omega))
        have a6 : wr.cell? ⟨m1, o1 + k * 7 + 6, none⟩ = some (v1 k 6) := (HB.out.cell (p := ⟨m1, _, none⟩) hn1).trans (HP2.out k hlt 6 (by omega))
        have b0 : wr.cell? ⟨m2, o2 + k * 7, none⟩ = some (v2 k 0) := (HB.out.cell (p := ⟨m2, _, none⟩) hn2).trans (HQ2.out k hlt2 0 (by omega))
        have b1 : wr.cell? ⟨m2, o2 + k * 7 + 1, none⟩ = some (v2 k 1) := (HB.out.cell (p := ⟨m2, _, none⟩) hn2).trans (HQ2.out k hlt2 1 (by omega))
        have b2 : wr.cell? ⟨m2, o2 + k * 7 + 2, none⟩ = some (v2 k 2) := (HB.out.cell (p := ⟨m2, _, none⟩) hn2).trans (HQ2.out k hlt2 2 (by omega))
        have b3 : wr.cell? ⟨m2, o2 + k * 7 + 3, none⟩ = some (v2 k 3) := (HB.out.cell (p := ⟨m2, _, none⟩) hn2).trans (HQ2.out k hlt2 3 (by omega))
        have b4 : wr.cell? ⟨m2, o2 + k * 7 + 4, none⟩ = some (v2 k 4) := (HB.out.cell (p := ⟨m2, _, none⟩) hn2).trans (HQ2.out k hlt2 4 (by omega))
        have b5 : wr.cell? ⟨m2, o2 + k * 7 + 5, none⟩ = some (v2 k 5) := (HB.out.cell (p := ⟨m2, _, none⟩) hn2).trans (HQ2.out k hlt2 5 (by omega))
        have b6 : wr.cell? ⟨m2, o2 + k * 7 + 6, none⟩ = some (v2 k 6) := (HB.out.cell (p := ⟨m2, _, none⟩) hn2).trans (HQ2.out k hlt2 6 (by omega))
        have hx := HPT.out k hlt
        have hy := HQT.out k hlt2
        have hm := List.getElem_mem hlt
        have HE0 := Lib.hid (show xs[k]? = ys[k]? ↔ xs[k] = ys[k] by rw [List.getElem?_eq_getElem hlt, List.getElem?_eq_getElem hlt2]; simp)
        have HNE := Lib.hid (fun h : xs[k] ≠ ys[k] => ne_of_at hlt hlt2 h)
        generalize xs[k] = x at *
        generalize ys[k] = y at *
        obtain ⟨fA, dA, bA, nA, fC, dC, bC, nC, e0, e1, e2, e3, e4, e5, e6⟩ := hx.cells
        rw [e0] at a0 hx
        rw [e1] at a1 hx
        rw [e2] at a2 hx
        rw [e3] at a3 hx
        rw [e4] at a4 hx
        rw [e5] at a5 hx
        rw [e6] at a6 hx
        clear e0 e1 e2 e3 e4 e5 e6
        obtain ⟨fA2, dA2, bA2, nA2, fC2, dC2, bC2, nC2, e0, e1, e2, e3, e4, e5, e6⟩ := hy.cells
        rw [e0] at b0 hy
        rw [e1] at b1 hy
        rw [e2] at b2 hy
        rw [e3] at b3 hy
        rw [e4] at b4 hy
        rw [e5] at b5 hy
        rw [e6] at b6 hy
        clear e0 e1 e2 e3 e4 e5 e6
        have hbn := below_more (below_new wr (.cells #[.int .i64 x.c, .int .i64 x.w, .bool x.big, .slice fA x.fs.length fC, .slice dA x.ds.length dC, .slice bA x.bs.length bC, .slice nA x.ns.length nC] 28)) (below_new (wr.alloc (.cells #[.int .i64 x.c, .int .i64 x.w, .bool x.big, .slice fA x.fs.length fC, .slice dA x.ds.length dC, .slice bA x.bs.length bC, .slice nA x.ns.length nC] 28)) (.cells #[.int .i64 y.c, .int .i64 y.w, .bool y.big, .slice fA2 y.fs.length fC2, .slice dA2 y.ds.length dC2, .slice bA2 y.bs.length bC2, .slice nA2 y.ns.length nC2] 28))
        have HBN := Lib.hid (below_more HB.out (hbn))
        have HX := Lib.hid ((hx.later HBN.out).up HBN.out.size)
        have HY := Lib.hid ((hy.later HBN.out).up HBN.out.size)
        have hbW : ∀ j, (wr.alloc (.cells #[.int .i64 x.c, .int .i64 x.w, .bool x.big, .slice fA x.fs.length fC, .slice dA x.ds.length dC, .slice bA x.bs.length bC, .slice nA x.ns.length nC] 28)).cell? ⟨m2, j, none⟩ = wr.cell? ⟨m2, j, none⟩ := fun j => cell_old _ _ (Nat.lt_of_lt_of_le hn2 HB.out.size) j
        have d0 := (hbW _).trans b0
        have d1 := (hbW _).trans b1
        have d2 := (hbW _).trans b2
        have d3 := (hbW _).trans b3
        have d4 := (hbW _).trans b4
        have d5 := (hbW _).trans b5
        have d6 := (hbW _).trans b6
        clear hx hy hbn hbW
        go_wp2_with (go_at_call 27; refine (HS.out x hm y _ _ _ HX.out HY.out).mono ?_)
        rintro _ w2 (⟨rfl, hne, hb2⟩ | ⟨rfl, he, hb2⟩)
        · have HB2 := Lib.hid (below_more HBN.out (show Below _ _ _ by first | exact hb2 | (rw [size_alloc, size_alloc]; exact hb2)))
          have HNE2 := Lib.hid (HNE.out hne)
          clear hb2 hne a0 b0 d0 a1 b1 d1 a2 b2 d2 a3 b3 d3 a4 b4 d4 a5 b5 d5 a6 b6 d6
          go_wp2
          go_ret
          exact ⟨false, rfl, by simp [HNE2.out], HB2.out⟩
        · have HB2 := Lib.hid (below_more HBN.out (show Below _ _ _ by first | exact hb2 | (rw [size_alloc, size_alloc]; exact hb2)))
          have HE := Lib.hid (HE0.out.mpr he)
          clear hb2 he a0 b0 d0 a1 b1 d1 a2 b2 d2 a3 b3 d3 a4 b4 d4 a5 b5 d5 a6 b6 d6
          go_wp2
          go_roundw
          case rel => exact ⟨k + 1, by omega, by go_num, HB2.out, fun i hi => by
            rcases Nat.lt_or_ge i k with h | h
            · exact HALL.out i h
            · rw [show i = k by omega]; exact HE.out⟩
          case measure => simp [intOf]; omega
      · obtain rfl : k = xs.length := by omega
        go_wp2
        go_ret
        exact ⟨true, rfl, by simp; exact list_eq_of HL.out HALL.out, HB.out⟩
  · have n0 : ((xs.length : Int) != (ys.length : Int)) = true := by simp [bne]; omega
    go_enter Try.func43, Try.ntmps43
    go_wp2
    go_ret
    exact ⟨false, rfl, by simp; intro e; exact hl (by rw [e]), Below.refl _ _⟩

set_option maxHeartbeats 2000000 in
set_option maxRecDepth 100000 in
theorem eqf_F (xs ys : List Fd) (hS : ∀ x ∈ xs, SameAt x.ty) (w : World) (A1 A2 : Option Addr) (c1 c2 m1 o1 m2 o2 : Nat) (v1 v2 : Nat → Nat → Value) (hd : xs.length ≤ 140737488355328) (hA1 : 0 < xs.length → A1 = some ⟨m1, o1, none⟩ ∧ m1 < w.heap.size) (hA2 : 0 < ys.length → A2 = some ⟨m2, o2, none⟩ ∧ m2 < w.heap.size)
    (p0 : ∀ i (h : i < xs.length), w.cell? ⟨m1, o1 + i * 9, none⟩ = some (.string xs[i].name)) (p1 : ∀ i (h : i < xs.length), w.cell? ⟨m1, o1 + i * 9 + 1, none⟩ = some (.int .i64 xs[i].pos)) (p2 : ∀ i, i < xs.length → ∀ k, k < 7 → w.cell? ⟨m1, o1 + i * 9 + 2 + k, none⟩ = some (v1 i k)) (pt : ∀ i (h : i < xs.length), TyAt w w.heap.size xs[i].ty (.agg #[v1 i 0, v1 i 1, v1 i 2, v1 i 3, v1 i 4, v1 i 5, v1 i 6]))
    (q0 : ∀ i (h : i < ys.length), w.cell? ⟨m2, o2 + i * 9, none⟩ = some (.string ys[i].name)) (q1 : ∀ i (h : i < ys.length), w.cell? ⟨m2, o2 + i * 9 + 1, none⟩ = some (.int .i64 ys[i].pos)) (q2 : ∀ i, i < ys.length → ∀ k, k < 7 → w.cell? ⟨m2, o2 + i * 9 + 2 + k, none⟩ = some (v2 i k)) (qt : ∀ i (h : i < ys.length), TyAt w w.heap.size ys[i].ty (.agg #[v2 i 0, v2 i 1, v2 i 2, v2 i 3, v2 i 4, v2 i 5, v2 i 6])) :
    Calls Try.prog 44 #[.slice A1 xs.length c1, .slice A2 ys.length c2, .func (.func 45) #[] #[]] w fun e w' => ∃ b, e = .returned (.bool b) ∧ (b = true ↔ xs = ys) ∧ Below w.heap.size w w' := by
  have HP2 := Lib.hid p2
  have HPT := Lib.hid pt
  have HQ2 := Lib.hid q2
  have HQT := Lib.hid qt
  have HP0 := Lib.hid p0
  have HP1 := Lib.hid p1
  have HQ0 := Lib.hid q0
  have HQ1 := Lib.hid q1
  have HS := Lib.hid hS
  have HA1 := Lib.hid hA1
  have HA2 := Lib.hid hA2
  clear p2 pt q2 qt p0 p1 q0 q1 hS hA1 hA2
  by_cases hl : xs.length = ys.length
  · rw [← hl]
    have HL := Lib.hid hl
    clear hl
    go_enter Try.func44, Try.ntmps44
    go_wp2
    go_loopw [17] (fun i wr => ∃ k : Nat, k ≤ xs.length ∧ i = .int .i64 k ∧ Below w.heap.size w wr ∧ ∀ i, i < k → xs[i]? = ys[i]?) (fun i _ => xs.length - (intOf i).toNat)
    case atStart => exact ⟨0, Nat.zero_le _, rfl, Below.refl _ _, fun i h => absurd h (Nat.not_lt_zero _)⟩
    case round =>
      obtain ⟨k, hk, rfl, hb, hall⟩ := hrel
      have HB := Lib.hid hb
      have HALL := Lib.hid hall
      clear hb hall
      by_cases hlt : k < xs.length
      · have hlt2 : k < ys.length := by have := HL.out; omega
        obtain ⟨rfl, hn1⟩ := HA1.out (by omega)
        obtain ⟨rfl, hn2⟩ := HA2.out (by omega)
        have hkl : (k : Int) < (xs.length : Int) := by omega
        have hk0 : (0 : Int) ≤ (k : Int) := by omega
        have an : wr.cell? ⟨m1, o1 + k * 9, none⟩ = some (.string xs[k].name) := (HB.out.cell (p := ⟨m1, _, none⟩) hn1).trans (HP0.out k hlt)
        have ap : wr.cell? ⟨m1, o1 + k * 9 + 1, none⟩ = some (.int .i64 xs[k].pos) := (HB.out.cell (p := ⟨m1, _, none⟩) hn1).trans (HP1.out k hlt)
        have a0 : wr.cell? ⟨m1, o1 + k * 9 + 2, none⟩ = some (v1 k 0) := (HB.out.cell (p := ⟨m1, _, none⟩) hn1).trans (HP2.out k hlt 0 (by omega))
        have a1 : wr.cell? ⟨m1, o1 + k * 9 + 2 + 1, none⟩ = some (v1 k 1) := (HB.out.cell (p := ⟨m1, _, none⟩) hn1).trans (HP2.out k hlt 1 (by omega))
        have a2 : wr.cell? ⟨m1, o1 + k * 9 + 2 + 2, none⟩ = some (v1 k 2) := (HB.out.cell (p := ⟨m1, _, none⟩) hn1).trans (HP2.out k hlt 2 (by omega))
        have a3 : wr.cell? ⟨m1, o1 + k * 9 + 2 + 3, none⟩ = some (v1 k 3) := (HB.out.cell (p := ⟨m1, _, none⟩) hn1).trans (HP2.out k hlt 3 (by omega))
        have a4 : wr.cell? ⟨m1, o1 + k * 9 + 2 + 4, none⟩ = some (v1 k 4) := (HB.out.cell (p := ⟨m1, _, none⟩) hn1).trans (HP2.out k hlt 4 (by omega))
        have a5 : wr.cell? ⟨m1, o1 + k * 9 + 2 + 5, none⟩ = some (v1 k 5) := (HB.out.cell (p := ⟨m1, _, none⟩) hn1).trans (HP2.out k hlt 5 (by omega))
        have a6 : wr.cell? ⟨m1, o1 + k * 9 + 2 + 6, none⟩ = some (v1 k 6) := (HB.out.cell (p := ⟨m1, _, none⟩) hn1).trans (HP2.out k hlt 6 (by omega))
        have bn : wr.cell? ⟨m2, o2 + k * 9, none⟩ = some (.string ys[k].name) := (HB.out.cell (p := ⟨m2, _, none⟩) hn2).trans (HQ0.out k hlt2)
        have bp : wr.cell? ⟨m2, o2 + k * 9 + 1, none⟩ = some (.int .i64 ys[k].pos) := (HB.out.cell (p := ⟨m2, _, none⟩) hn2).trans (HQ1.out k hlt2)
        have b0 : wr.cell? ⟨m2, o2 + k * 9 + 2, none⟩ = some (v2 k 0) := (HB.out.cell (p := ⟨m2, _, none⟩) hn2).trans (HQ2.out k hlt2 0 (by omega))
        have b1 : wr.cell? ⟨m2, o2 + k * 9 + 2 + 1, none⟩ = some (v2 k 1) := (HB.out.cell (p := ⟨m2, _, none⟩) hn2).trans (HQ2.out k hlt2 1 (by omega))
        have b2 : wr.cell? ⟨m2, o2 + k * 9 + 2 + 2, none⟩ = some (v2 k 2) := (HB.out.cell (p := ⟨m2, _, none⟩) hn2).trans (HQ2.out k hlt2 2 (by omega))
        have b3 : wr.cell? ⟨m2, o2 + k * 9 + 2 + 3, none⟩ = some (v2 k 3) := (HB.out.cell (p := ⟨m2, _, none⟩) hn2).trans (HQ2.out k hlt2 3 (by omega))
        have b4 : wr.cell? ⟨m2, o2 + k * 9 + 2 + 4, none⟩ = some (v2 k 4) := (HB.out.cell (p := ⟨m2, _, none⟩) hn2).trans (HQ2.out k hlt2 4 (by omega))
        have b5 : wr.cell? ⟨m2, o2 + k * 9 + 2 + 5, none⟩ = some (v2 k 5) := (HB.out.cell (p := ⟨m2, _, none⟩) hn2).trans (HQ2.out k hlt2 5 (by omega))
        have b6 : wr.cell? ⟨m2, o2 + k * 9 + 2 + 6, none⟩ = some (v2 k 6) := (HB.out.cell (p := ⟨m2, _, none⟩) hn2).trans (HQ2.out k hlt2 6 (by omega))
        have hx := HPT.out k hlt
        have hy := HQT.out k hlt2
        have hm := List.getElem_mem hlt
        have HE0 := Lib.hid (show xs[k]? = ys[k]? ↔ xs[k] = ys[k] by rw [List.getElem?_eq_getElem hlt, List.getElem?_eq_getElem hlt2]; simp)
        have HNE := Lib.hid (fun h : xs[k] ≠ ys[k] => ne_of_at hlt hlt2 h)
        generalize xs[k] = x at *
        generalize ys[k] = y at *
        obtain ⟨fA, dA, bA, nA, fC, dC, bC, nC, e0, e1, e2, e3, e4, e5, e6⟩ := hx.cells
        rw [e0] at a0 hx
        rw [e1] at a1 hx
        rw [e2] at a2 hx
        rw [e3] at a3 hx
        rw [e4] at a4 hx
        rw [e5] at a5 hx
        rw [e6] at a6 hx
        clear e0 e1 e2 e3 e4 e5 e6
        obtain ⟨fA2, dA2, bA2, nA2, fC2, dC2, bC2, nC2, e0, e1, e2, e3, e4, e5, e6⟩ := hy.cells
        rw [e0] at b0 hy
        rw [e1] at b1 hy
        rw [e2] at b2 hy
        rw [e3] at b3 hy
        rw [e4] at b4 hy
        rw [e5] at b5 hy
        rw [e6] at b6 hy
        clear e0 e1 e2 e3 e4 e5 e6
        have hbn := below_more (below_new wr (.cells #[.string x.name, .int .i64 x.pos, .int .i64 x.ty.c, .int .i64 x.ty.w, .bool x.ty.big, .slice fA x.ty.fs.length fC, .slice dA x.ty.ds.length dC, .slice bA x.ty.bs.length bC, .slice nA x.ty.ns.length nC] 66)) (below_new (wr.alloc (.cells #[.string x.name, .int .i64 x.pos, .int .i64 x.ty.c, .int .i64 x.ty.w, .bool x.ty.big, .slice fA x.ty.fs.length fC, .slice dA x.ty.ds.length dC, .slice bA x.ty.bs.length bC, .slice nA x.ty.ns.length nC] 66)) (.cells #[.string y.name, .int .i64 y.pos, .int .i64 y.ty.c, .int .i64 y.ty.w, .bool y.ty.big, .slice fA2 y.ty.fs.length fC2, .slice dA2 y.ty.ds.length dC2, .slice bA2 y.ty.bs.length bC2, .slice nA2 y.ty.ns.length nC2] 66))
        have HBN := Lib.hid (below_more HB.out (hbn))
        have HX := Lib.hid ((hx.later HBN.out).up HBN.out.size)
        have HY := Lib.hid ((hy.later HBN.out).up HBN.out.size)
        have hbW : ∀ j, (wr.alloc (.cells #[.string x.name, .int .i64 x.pos, .int .i64 x.ty.c, .int .i64 x.ty.w, .bool x.ty.big, .slice fA x.ty.fs.length fC, .slice dA x.ty.ds.length dC, .slice bA x.ty.bs.length bC, .slice nA x.ty.ns.length nC] 66)).cell? ⟨m2, j, none⟩ = wr.cell? ⟨m2, j, none⟩ := fun j => cell_old _ _ (Nat.lt_of_lt_of_le hn2 HB.out.size) j
        have d0 := (hbW _).trans b0
        have d1 := (hbW _).trans b1
        have d2 := (hbW _).trans b2
        have d3 := (hbW _).trans b3
        have d4 := (hbW _).trans b4
        have d5 := (hbW _).trans b5
        have d6 := (hbW _).trans b6
        have dn := (hbW _).trans bn
        have dp := (hbW _).trans bp
        clear hx hy hbn hbW
        go_wp2_with (go_at_call 45; refine (same1 x.name y.name x.pos y.pos x.ty y.ty (HS.out x hm) _ _ _ _ _ _ _ _ _ _ _ _ _ _ _ _ _ HX.out HY.out).mono ?_)
        rintro _ w2 (⟨rfl, hne, hb2⟩ | ⟨rfl, he, hb2⟩)
        · have HB2 := Lib.hid (below_more HBN.out (show Below _ _ _ by first | exact hb2 | (rw [size_alloc, size_alloc]; exact hb2)))
          have HNE2 := Lib.hid (HNE.out (fun e => hne (by rw [e]) (by rw [e]) (by rw [e])))
          clear hb2 hne a0 b0 d0 a1 b1 d1 a2 b2 d2 a3 b3 d3 a4 b4 d4 a5 b5 d5 a6 b6 d6 an ap bn bp dn dp
          go_wp2
          go_ret
          exact ⟨false, rfl, by simp [HNE2.out], HB2.out⟩
        · have HB2 := Lib.hid (below_more HBN.out (show Below _ _ _ by first | exact hb2 | (rw [size_alloc, size_alloc]; exact hb2)))
          have HE := Lib.hid (HE0.out.mpr (fd_eq.mpr he))
          clear hb2 he a0 b0 d0 a1 b1 d1 a2 b2 d2 a3 b3 d3 a4 b4 d4 a5 b5 d5 a6 b6 d6 an ap bn bp dn dp
          go_wp2
          go_roundw
          case rel => exact ⟨k + 1, by omega, by go_num, HB2.out, fun i hi => by
            rcases Nat.lt_or_ge i k with h | h
            · exact HALL.out i h
            · rw [show i = k by omega]; exact HE.out⟩
          case measure => simp [intOf]; omega
      · obtain rfl : k = xs.length := by omega
        go_wp2
        go_ret
        exact ⟨true, rfl, by simp; exact list_eq_of HL.out HALL.out, HB.out⟩
  · have n0 : ((xs.length : Int) != (ys.length : Int)) = true := by simp [bne]; omega
    go_enter Try.func44, Try.ntmps44
    go_wp2
    go_ret
    exact ⟨false, rfl, by simp; intro e; exact hl (by rw [e]), Below.refl _ _⟩

theorem yes_of {P : Program} {f : FuncId} {args : Array Value} {w : World} {R : Prop} (h : Calls P f args w fun e w' => ∃ b, e = .returned (.bool b) ∧ (b = true ↔ R) ∧ Below w.heap.size w w') (hr : R) :
    Calls P f args w fun e w' => e = .returned (.bool true) ∧ Below w.heap.size w w' := h.mono fun e w' ⟨b, he, hb, hbe⟩ => ⟨by rw [he, hb.mpr hr], hbe⟩
theorem no_of {P : Program} {f : FuncId} {args : Array Value} {w : World} {R : Prop} (h : Calls P f args w fun e w' => ∃ b, e = .returned (.bool b) ∧ (b = true ↔ R) ∧ Below w.heap.size w w') (hr : ¬ R) :
    Calls P f args w fun e w' => e = .returned (.bool false) ∧ Below w.heap.size w w' := h.mono fun e w' ⟨b, he, hb, hbe⟩ => ⟨by rw [he]; cases b <;> simp_all, hbe⟩

set_option maxHeartbeats 4000000 in
set_option maxRecDepth 100000 in
theorem psame_any (x : Ty) : SameAt x := by
  induction x using Ty.ind with
  | h c wd b fs ds bs ns ihf ihb =>
    intro y v u w ht hu
    have IF := Lib.hid ihf
    have IB := Lib.hid ihb
    clear ihf ihb
    cases ht with
    | mk _ _ _ _ _ _ _ fA dA bA nA fC dC bC nC fb fo db dO bb bo nb nO fv bv hf hd hb hn hfz hnz hnr hcap hfA hdA hbA hnA hf0 hf1 hf2 hft hd0 hb0 hbt hn0' hn1' =>
    cases hu with
    | mk c' wd' b' fs' ds' bs' ns' fA2 dA2 bA2 nA2 fC2 dC2 bC2 nC2 fb2 fo2 db2 dO2 bb2 bo2 nb2 nO2 fv2 bv2 hf' hd' hb' hn' _ _ _ hcap2 hfA2 hdA2 hbA2 hnA2 gf0 gf1 gf2 gft gd0 gb0 gbt gn0 gn1 =>
    have HF0 := Lib.hid hf0
    have HF1 := Lib.hid hf1
    have HF2 := Lib.hid hf2
    have HFT := Lib.hid hft
    have HD0 := Lib.hid hd0
    have HB0 := Lib.hid hb0
    have HBT := Lib.hid hbt
    have HN0 := Lib.hid hn0'
    have HN1 := Lib.hid hn1'
    have GF0 := Lib.hid gf0
    have GF1 := Lib.hid gf1
    have GF2 := Lib.hid gf2
    have GFT := Lib.hid gft
    have GD0 := Lib.hid gd0
    have GB0 := Lib.hid gb0
    have GBT := Lib.hid gbt
    have GN0 := Lib.hid gn0
    have GN1 := Lib.hid gn1
    have HFA := Lib.hid hfA
    have HDA := Lib.hid hdA
    have HBA := Lib.hid hbA
    have HNA := Lib.hid hnA
    have HFA2 := Lib.hid hfA2
    have HDA2 := Lib.hid hdA2
    have HBA2 := Lib.hid hbA2
    have HNA2 := Lib.hid hnA2
    clear hf0 hf1 hf2 hft hd0 hb0 hbt hn0' hn1' gf0 gf1 gf2 gft gd0 gb0 gbt gn0 gn1 hfA hdA hbA hnA hfA2 hdA2 hbA2 hnA2 hfz hnz hnr hcap hcap2
    by_cases h1 : c = c'
    case neg =>
      have n1 : (c == c') = false := by simp [h1]
      have HT := Lib.hid (Two.new w 28 #[.int .i64 c, .int .i64 wd, .bool b, .slice fA fs.length fC, .slice dA ds.length dC, .slice bA bs.length bC, .slice nA ns.length nC] #[.int .i64 c', .int .i64 wd', .bool b', .slice fA2 fs'.length fC2, .slice dA2 ds'.length dC2, .slice bA2 bs'.length bC2, .slice nA2 ns'.length nC2])
      go_enter Try.func27, Try.ntmps27
      go_wp2
      go_ret
      exact ⟨false, rfl, by simp [h1], HT.out.be⟩
    case pos =>
      subst h1
      by_cases h2 : wd = wd'
      case neg =>
        have n1 : (wd == wd') = false := by simp [h2]
        have HT := Lib.hid (Two.new w 28 #[.int .i64 c, .int .i64 wd, .bool b, .slice fA fs.length fC, .slice dA ds.length dC, .slice bA bs.length bC, .slice nA ns.length nC] #[.int .i64 c, .int .i64 wd', .bool b', .slice fA2 fs'.length fC2, .slice dA2 ds'.length dC2, .slice bA2 bs'.length bC2, .slice nA2 ns'.length nC2])
        go_enter Try.func27, Try.ntmps27
        go_wp2
        go_ret
        exact ⟨false, rfl, by simp [h2], HT.out.be⟩
      case pos =>
        subst h2
        by_cases h3 : b = b'
        case neg =>
          have n1 : (b == b') = false := by cases b <;> cases b' <;> simp_all
          have HT := Lib.hid (Two.new w 28 #[.int .i64 c, .int .i64 wd, .bool b, .slice fA fs.length fC, .slice dA ds.length dC, .slice bA bs.length bC, .slice nA ns.length nC] #[.int .i64 c, .int .i64 wd, .bool b', .slice fA2 fs'.length fC2, .slice dA2 ds'.length dC2, .slice bA2 bs'.length bC2, .slice nA2 ns'.length nC2])
          go_enter Try.func27, Try.ntmps27
          go_wp2
          go_ret
          exact ⟨false, rfl, by simp [h3], HT.out.be⟩
        case pos =>
          subst h3
          by_cases h4 : ds = ds'
          case neg =>
            have HT := Lib.hid (Two.new w 28 #[.int .i64 c, .int .i64 wd, .bool b, .slice fA fs.length fC, .slice dA ds.length dC, .slice bA bs.length bC, .slice nA ns.length nC] #[.int .i64 c, .int .i64 wd, .bool b, .slice fA2 fs'.length fC2, .slice dA2 ds'.length dC2, .slice bA2 bs'.length bC2, .slice nA2 ns'.length nC2])
            go_enter Try.func27, Try.ntmps27
            go_wp2_with (go_at_call 41; refine (no_of (eq_D _ dA dA2 ds ds' dC dC2 db dO db2 dO2 hd (fun h => ⟨(HDA.out h).1, Nat.lt_of_lt_of_le (HDA.out h).2 HT.out.be.size⟩) (fun h => ⟨(HDA2.out h).1, Nat.lt_of_lt_of_le (HDA2.out h).2 HT.out.be.size⟩) (fun i h => (HT.out.be.cell (p := ⟨db, _, none⟩) (HDA.out (by omega)).2).trans (HD0.out i h)) (fun i h => (HT.out.be.cell (p := ⟨db2, _, none⟩) (HDA2.out (by omega)).2).trans (GD0.out i h))) h4).mono ?_)
            first
              | rintro _ w2 rfl hb2
              | rintro _ w2 ⟨rfl, hb2⟩
            have HT1 := Lib.hid (HT.out.more (show Below _ _ _ by first | exact hb2 | (rw [size_alloc, size_alloc]; exact hb2)))
            clear hb2 HT
            have HT := Lib.hid HT1.out
            clear HT1
            go_wp2
            go_ret
            exact ⟨false, rfl, by simp [h4], HT.out.be⟩
          case pos =>
            subst h4
            by_cases h5 : ns = ns'
            case neg =>
              have HT := Lib.hid (Two.new w 28 #[.int .i64 c, .int .i64 wd, .bool b, .slice fA fs.length fC, .slice dA ds.length dC, .slice bA bs.length bC, .slice nA ns.length nC] #[.int .i64 c, .int .i64 wd, .bool b, .slice fA2 fs'.length fC2, .slice dA2 ds.length dC2, .slice bA2 bs'.length bC2, .slice nA2 ns'.length nC2])
              go_enter Try.func27, Try.ntmps27
              go_wp2_with (go_at_call 41; refine (yes_of (eq_D _ dA dA2 ds ds dC dC2 db dO db2 dO2 hd (fun h => ⟨(HDA.out h).1, Nat.lt_of_lt_of_le (HDA.out h).2 HT.out.be.size⟩) (fun h => ⟨(HDA2.out h).1, Nat.lt_of_lt_of_le (HDA2.out h).2 HT.out.be.size⟩) (fun i h => (HT.out.be.cell (p := ⟨db, _, none⟩) (HDA.out (by omega)).2).trans (HD0.out i h)) (fun i h => (HT.out.be.cell (p := ⟨db2, _, none⟩) (HDA2.out (by omega)).2).trans (GD0.out i h))) rfl).mono ?_)
              first
                | rintro _ w2 rfl hb2
                | rintro _ w2 ⟨rfl, hb2⟩
              have HT1 := Lib.hid (HT.out.more (show Below _ _ _ by first | exact hb2 | (rw [size_alloc, size_alloc]; exact hb2)))
              clear hb2 HT
              have HT := Lib.hid HT1.out
              clear HT1
              have p6 : w2.cell? ⟨w.heap.size, 6, none⟩ = some (.slice nA ns.length nC) := HT.out.b1.cell 6
              have q6 : w2.cell? ⟨w.heap.size + 1, 6, none⟩ = some (.slice nA2 ns'.length nC2) := HT.out.b2.cell 6
              go_wp2_with (go_at_call 42; refine (no_of (eq_N _ nA nA2 ns ns' nC nC2 nb nO nb2 nO2 hn (fun h => ⟨(HNA.out h).1, Nat.lt_of_lt_of_le (HNA.out h).2 HT.out.be.size⟩) (fun h => ⟨(HNA2.out h).1, Nat.lt_of_lt_of_le (HNA2.out h).2 HT.out.be.size⟩) (fun i h => (HT.out.be.cell (p := ⟨nb, _, none⟩) (HNA.out (by omega)).2).trans (HN0.out i h)) (fun i h => (HT.out.be.cell (p := ⟨nb, _, none⟩) (HNA.out (by omega)).2).trans (HN1.out i h)) (fun i h => (HT.out.be.cell (p := ⟨nb2, _, none⟩) (HNA2.out (by omega)).2).trans (GN0.out i h)) (fun i h => (HT.out.be.cell (p := ⟨nb2, _, none⟩) (HNA2.out (by omega)).2).trans (GN1.out i h))) h5).mono ?_)
              first
                | rintro _ w2 rfl hb2
                | rintro _ w2 ⟨rfl, hb2⟩
              have HT1 := Lib.hid (HT.out.more (show Below _ _ _ by first | exact hb2 | (rw [size_alloc, size_alloc]; exact hb2)))
              clear hb2 HT
              clear p6 q6
              have HT := Lib.hid HT1.out
              clear HT1
              go_wp2
              go_ret
              exact ⟨false, rfl, by simp [h5], HT.out.be⟩
            case pos =>
              subst h5
              by_cases h6 : bs = bs'
              case neg =>
                have HT := Lib.hid (Two.new w 28 #[.int .i64 c, .int .i64 wd, .bool b, .slice fA fs.length fC, .slice dA ds.length dC, .slice bA bs.length bC, .slice nA ns.length nC] #[.int .i64 c, .int .i64 wd, .bool b, .slice fA2 fs'.length fC2, .slice dA2 ds.length dC2, .slice bA2 bs'.length bC2, .slice nA2 ns.length nC2])
                go_enter Try.func27, Try.ntmps27
                go_wp2_with (go_at_call 41; refine (yes_of (eq_D _ dA dA2 ds ds dC dC2 db dO db2 dO2 hd (fun h => ⟨(HDA.out h).1, Nat.lt_of_lt_of_le (HDA.out h).2 HT.out.be.size⟩) (fun h => ⟨(HDA2.out h).1, Nat.lt_of_lt_of_le (HDA2.out h).2 HT.out.be.size⟩) (fun i h => (HT.out.be.cell (p := ⟨db, _, none⟩) (HDA.out (by omega)).2).trans (HD0.out i h)) (fun i h => (HT.out.be.cell (p := ⟨db2, _, none⟩) (HDA2.out (by omega)).2).trans (GD0.out i h))) rfl).mono ?_)
                first
                  | rintro _ w2 rfl hb2
                  | rintro _ w2 ⟨rfl, hb2⟩
                have HT1 := Lib.hid (HT.out.more (show Below _ _ _ by first | exact hb2 | (rw [size_alloc, size_alloc]; exact hb2)))
                clear hb2 HT
                have HT := Lib.hid HT1.out
                clear HT1
                have p6 : w2.cell? ⟨w.heap.size, 6, none⟩ = some (.slice nA ns.length nC) := HT.out.b1.cell 6
                have q6 : w2.cell? ⟨w.heap.size + 1, 6, none⟩ = some (.slice nA2 ns.length nC2) := HT.out.b2.cell 6
                go_wp2_with (go_at_call 42; refine (yes_of (eq_N _ nA nA2 ns ns nC nC2 nb nO nb2 nO2 hn (fun h => ⟨(HNA.out h).1, Nat.lt_of_lt_of_le (HNA.out h).2 HT.out.be.size⟩) (fun h => ⟨(HNA2.out h).1, Nat.lt_of_lt_of_le (HNA2.out h).2 HT.out.be.size⟩) (fun i h => (HT.out.be.cell (p := ⟨nb, _, none⟩) (HNA.out (by omega)).2).trans (HN0.out i h)) (fun i h => (HT.out.be.cell (p := ⟨nb, _, none⟩) (HNA.out (by omega)).2).trans (HN1.out i h)) (fun i h => (HT.out.be.cell (p := ⟨nb2, _, none⟩) (HNA2.out (by omega)).2).trans (GN0.out i h)) (fun i h => (HT.out.be.cell (p := ⟨nb2, _, none⟩) (HNA2.out (by omega)).2).trans (GN1.out i h))) rfl).mono ?_)
                first
                  | rintro _ w2 rfl hb2
                  | rintro _ w2 ⟨rfl, hb2⟩
                have HT1 := Lib.hid (HT.out.more (show Below _ _ _ by first | exact hb2 | (rw [size_alloc, size_alloc]; exact hb2)))
                clear hb2 HT
                clear p6 q6
                have HT := Lib.hid HT1.out
                clear HT1
                have p5 : w2.cell? ⟨w.heap.size, 5, none⟩ = some (.slice bA bs.length bC) := HT.out.b1.cell 5
                have q5 : w2.cell? ⟨w.heap.size + 1, 5, none⟩ = some (.slice bA2 bs'.length bC2) := HT.out.b2.cell 5
                go_wp2_with (go_at_call 43; refine (no_of (eqf_B bs bs' IB.out _ bA bA2 bC bC2 bb bo bb2 bo2 bv bv2 hb (fun h => ⟨(HBA.out h).1, Nat.lt_of_lt_of_le (HBA.out h).2 HT.out.be.size⟩) (fun h => ⟨(HBA2.out h).1, Nat.lt_of_lt_of_le (HBA2.out h).2 HT.out.be.size⟩) (fun i h k hk => (HT.out.be.cell (p := ⟨bb, _, none⟩) (HBA.out (by omega)).2).trans (HB0.out i h k hk)) (fun i h => ((HBT.out i h).later HT.out.be).up HT.out.be.size) (fun i h k hk => (HT.out.be.cell (p := ⟨bb2, _, none⟩) (HBA2.out (by omega)).2).trans (GB0.out i h k hk)) (fun i h => ((GBT.out i h).later HT.out.be).up HT.out.be.size)) h6).mono ?_)
                first
                  | rintro _ w2 rfl hb2
                  | rintro _ w2 ⟨rfl, hb2⟩
                have HT1 := Lib.hid (HT.out.more (show Below _ _ _ by first | exact hb2 | (rw [size_alloc, size_alloc]; exact hb2)))
                clear hb2 HT
                clear p5 q5
                have HT := Lib.hid HT1.out
                clear HT1
                go_wp2
                go_ret
                exact ⟨false, rfl, by simp [h6], HT.out.be⟩
              case pos =>
                subst h6
                by_cases h7 : fs = fs'
                case neg =>
                  have HT := Lib.hid (Two.new w 28 #[.int .i64 c, .int .i64 wd, .bool b, .slice fA fs.length fC, .slice dA ds.length dC, .slice bA bs.length bC, .slice nA ns.length nC] #[.int .i64 c, .int .i64 wd, .bool b, .slice fA2 fs'.length fC2, .slice dA2 ds.length dC2, .slice bA2 bs.length bC2, .slice nA2 ns.length nC2])
                  go_enter Try.func27, Try.ntmps27
                  go_wp2_with (go_at_call 41; refine (yes_of (eq_D _ dA dA2 ds ds dC dC2 db dO db2 dO2 hd (fun h => ⟨(HDA.out h).1, Nat.lt_of_lt_of_le (HDA.out h).2 HT.out.be.size⟩) (fun h => ⟨(HDA2.out h).1, Nat.lt_of_lt_of_le (HDA2.out h).2 HT.out.be.size⟩) (fun i h => (HT.out.be.cell (p := ⟨db, _, none⟩) (HDA.out (by omega)).2).trans (HD0.out i h)) (fun i h => (HT.out.be.cell (p := ⟨db2, _, none⟩) (HDA2.out (by omega)).2).trans (GD0.out i h))) rfl).mono ?_)
                  first
                    | rintro _ w2 rfl hb2
                    | rintro _ w2 ⟨rfl, hb2⟩
                  have HT1 := Lib.hid (HT.out.more (show Below _ _ _ by first | exact hb2 | (rw [size_alloc, size_alloc]; exact hb2)))
                  clear hb2 HT
                  have HT := Lib.hid HT1.out
                  clear HT1
                  have p6 : w2.cell? ⟨w.heap.size, 6, none⟩ = some (.slice nA ns.length nC) := HT.out.b1.cell 6
                  have q6 : w2.cell? ⟨w.heap.size + 1, 6, none⟩ = some (.slice nA2 ns.length nC2) := HT.out.b2.cell 6
                  go_wp2_with (go_at_call 42; refine (yes_of (eq_N _ nA nA2 ns ns nC nC2 nb nO nb2 nO2 hn (fun h => ⟨(HNA.out h).1, Nat.lt_of_lt_of_le (HNA.out h).2 HT.out.be.size⟩) (fun h => ⟨(HNA2.out h).1, Nat.lt_of_lt_of_le (HNA2.out h).2 HT.out.be.size⟩) (fun i h => (HT.out.be.cell (p := ⟨nb, _, none⟩) (HNA.out (by omega)).2).trans (HN0.out i h)) (fun i h => (HT.out.be.cell (p := ⟨nb, _, none⟩) (HNA.out (by omega)).2).trans (HN1.out i h)) (fun i h => (HT.out.be.cell (p := ⟨nb2, _, none⟩) (HNA2.out (by omega)).2).trans (GN0.out i h)) (fun i h => (HT.out.be.cell (p := ⟨nb2, _, none⟩) (HNA2.out (by omega)).2).trans (GN1.out i h))) rfl).mono ?_)
                  first
                    | rintro _ w2 rfl hb2
                    | rintro _ w2 ⟨rfl, hb2⟩
                  have HT1 := Lib.hid (HT.out.more (show Below _ _ _ by first | exact hb2 | (rw [size_alloc, size_alloc]; exact hb2)))
                  clear hb2 HT
                  clear p6 q6
                  have HT := Lib.hid HT1.out
                  clear HT1
                  have p5 : w2.cell? ⟨w.heap.size, 5, none⟩ = some (.slice bA bs.length bC) := HT.out.b1.cell 5
                  have q5 : w2.cell? ⟨w.heap.size + 1, 5, none⟩ = some (.slice bA2 bs.length bC2) := HT.out.b2.cell 5
                  go_wp2_with (go_at_call 43; refine (yes_of (eqf_B bs bs IB.out _ bA bA2 bC bC2 bb bo bb2 bo2 bv bv2 hb (fun h => ⟨(HBA.out h).1, Nat.lt_of_lt_of_le (HBA.out h).2 HT.out.be.size⟩) (fun h => ⟨(HBA2.out h).1, Nat.lt_of_lt_of_le (HBA2.out h).2 HT.out.be.size⟩) (fun i h k hk => (HT.out.be.cell (p := ⟨bb, _, none⟩) (HBA.out (by omega)).2).trans (HB0.out i h k hk)) (fun i h => ((HBT.out i h).later HT.out.be).up HT.out.be.size) (fun i h k hk => (HT.out.be.cell (p := ⟨bb2, _, none⟩) (HBA2.out (by omega)).2).trans (GB0.out i h k hk)) (fun i h => ((GBT.out i h).later HT.out.be).up HT.out.be.size)) rfl).mono ?_)
                  first
                    | rintro _ w2 rfl hb2
                    | rintro _ w2 ⟨rfl, hb2⟩
                  have HT1 := Lib.hid (HT.out.more (show Below _ _ _ by first | exact hb2 | (rw [size_alloc, size_alloc]; exact hb2)))
                  clear hb2 HT
                  clear p5 q5
                  have HT := Lib.hid HT1.out
                  clear HT1
                  have p3 : w2.cell? ⟨w.heap.size, 3, none⟩ = some (.slice fA fs.length fC) := HT.out.b1.cell 3
                  have q3 : w2.cell? ⟨w.heap.size + 1, 3, none⟩ = some (.slice fA2 fs'.length fC2) := HT.out.b2.cell 3
                  go_wp2_with (go_at_call 44; refine (no_of (eqf_F fs fs' IF.out _ fA fA2 fC fC2 fb fo fb2 fo2 fv fv2 hf (fun h => ⟨(HFA.out h).1, Nat.lt_of_lt_of_le (HFA.out h).2 HT.out.be.size⟩) (fun h => ⟨(HFA2.out h).1, Nat.lt_of_lt_of_le (HFA2.out h).2 HT.out.be.size⟩) (fun i h => (HT.out.be.cell (p := ⟨fb, _, none⟩) (HFA.out (by omega)).2).trans (HF0.out i h)) (fun i h => (HT.out.be.cell (p := ⟨fb, _, none⟩) (HFA.out (by omega)).2).trans (HF1.out i h)) (fun i h k hk => (HT.out.be.cell (p := ⟨fb, _, none⟩) (HFA.out (by omega)).2).trans (HF2.out i h k hk)) (fun i h => ((HFT.out i h).later HT.out.be).up HT.out.be.size) (fun i h => (HT.out.be.cell (p := ⟨fb2, _, none⟩) (HFA2.out (by omega)).2).trans (GF0.out i h)) (fun i h => (HT.out.be.cell (p := ⟨fb2, _, none⟩) (HFA2.out (by omega)).2).trans (GF1.out i h)) (fun i h k hk => (HT.out.be.cell (p := ⟨fb2, _, none⟩) (HFA2.out (by omega)).2).trans (GF2.out i h k hk)) (fun i h => ((GFT.out i h).later HT.out.be).up HT.out.be.size)) h7).mono ?_)
                  first
                    | rintro _ w2 rfl hb2
                    | rintro _ w2 ⟨rfl, hb2⟩
                  have HT1 := Lib.hid (HT.out.more (show Below _ _ _ by first | exact hb2 | (rw [size_alloc, size_alloc]; exact hb2)))
                  clear hb2 HT
                  clear p3 q3
                  have HT := Lib.hid HT1.out
                  clear HT1
                  go_wp2
                  go_ret
                  exact ⟨false, rfl, by simp [h7], HT.out.be⟩
                case pos =>
                  subst h7
                  have HT := Lib.hid (Two.new w 28 #[.int .i64 c, .int .i64 wd, .bool b, .slice fA fs.length fC, .slice dA ds.length dC, .slice bA bs.length bC, .slice nA ns.length nC] #[.int .i64 c, .int .i64 wd, .bool b, .slice fA2 fs.length fC2, .slice dA2 ds.length dC2, .slice bA2 bs.length bC2, .slice nA2 ns.length nC2])
                  go_enter Try.func27, Try.ntmps27
                  go_wp2_with (go_at_call 41; refine (yes_of (eq_D _ dA dA2 ds ds dC dC2 db dO db2 dO2 hd (fun h => ⟨(HDA.out h).1, Nat.lt_of_lt_of_le (HDA.out h).2 HT.out.be.size⟩) (fun h => ⟨(HDA2.out h).1, Nat.lt_of_lt_of_le (HDA2.out h).2 HT.out.be.size⟩) (fun i h => (HT.out.be.cell (p := ⟨db, _, none⟩) (HDA.out (by omega)).2).trans (HD0.out i h)) (fun i h => (HT.out.be.cell (p := ⟨db2, _, none⟩) (HDA2.out (by omega)).2).trans (GD0.out i h))) rfl).mono ?_)
                  first
                    | rintro _ w2 rfl hb2
                    | rintro _ w2 ⟨rfl, hb2⟩
                  have HT1 := Lib.hid (HT.out.more (show Below _ _ _ by first | exact hb2 | (rw [size_alloc, size_alloc]; exact hb2)))
                  clear hb2 HT
                  have HT := Lib.hid HT1.out
                  clear HT1
                  have p6 : w2.cell? ⟨w.heap.size, 6, none⟩ = some (.slice nA ns.length nC) := HT.out.b1.cell 6
                  have q6 : w2.cell? ⟨w.heap.size + 1, 6, none⟩ = some (.slice nA2 ns.length nC2) := HT.out.b2.cell 6
                  go_wp2_with (go_at_call 42; refine (yes_of (eq_N _ nA nA2 ns ns nC nC2 nb nO nb2 nO2 hn (fun h => ⟨(HNA.out h).1, Nat.lt_of_lt_of_le (HNA.out h).2 HT.out.be.size⟩) (fun h => ⟨(HNA2.out h).1, Nat.lt_of_lt_of_le (HNA2.out h).2 HT.out.be.size⟩) (fun i h => (HT.out.be.cell (p := ⟨nb, _, none⟩) (HNA.out (by omega)).2).trans (HN0.out i h)) (fun i h => (HT.out.be.cell (p := ⟨nb, _, none⟩) (HNA.out (by omega)).2).trans (HN1.out i h)) (fun i h => (HT.out.be.cell (p := ⟨nb2, _, none⟩) (HNA2.out (by omega)).2).trans (GN0.out i h)) (fun i h => (HT.out.be.cell (p := ⟨nb2, _, none⟩) (HNA2.out (by omega)).2).trans (GN1.out i h))) rfl).mono ?_)
                  first
                    | rintro _ w2 rfl hb2
                    | rintro _ w2 ⟨rfl, hb2⟩
                  have HT1 := Lib.hid (HT.out.more (show Below _ _ _ by first | exact hb2 | (rw [size_alloc, size_alloc]; exact hb2)))
                  clear hb2 HT
                  clear p6 q6
                  have HT := Lib.hid HT1.out
                  clear HT1
                  have p5 : w2.cell? ⟨w.heap.size, 5, none⟩ = some (.slice bA bs.length bC) := HT.out.b1.cell 5
                  have q5 : w2.cell? ⟨w.heap.size + 1, 5, none⟩ = some (.slice bA2 bs.length bC2) := HT.out.b2.cell 5
                  go_wp2_with (go_at_call 43; refine (yes_of (eqf_B bs bs IB.out _ bA bA2 bC bC2 bb bo bb2 bo2 bv bv2 hb (fun h => ⟨(HBA.out h).1, Nat.lt_of_lt_of_le (HBA.out h).2 HT.out.be.size⟩) (fun h => ⟨(HBA2.out h).1, Nat.lt_of_lt_of_le (HBA2.out h).2 HT.out.be.size⟩) (fun i h k hk => (HT.out.be.cell (p := ⟨bb, _, none⟩) (HBA.out (by omega)).2).trans (HB0.out i h k hk)) (fun i h => ((HBT.out i h).later HT.out.be).up HT.out.be.size) (fun i h k hk => (HT.out.be.cell (p := ⟨bb2, _, none⟩) (HBA2.out (by omega)).2).trans (GB0.out i h k hk)) (fun i h => ((GBT.out i h).later HT.out.be).up HT.out.be.size)) rfl).mono ?_)
                  first
                    | rintro _ w2 rfl hb2
                    | rintro _ w2 ⟨rfl, hb2⟩
                  have HT1 := Lib.hid (HT.out.more (show Below _ _ _ by first | exact hb2 | (rw [size_alloc, size_alloc]; exact hb2)))
                  clear hb2 HT
                  clear p5 q5
                  have HT := Lib.hid HT1.out
                  clear HT1
                  have p3 : w2.cell? ⟨w.heap.size, 3, none⟩ = some (.slice fA fs.length fC) := HT.out.b1.cell 3
                  have q3 : w2.cell? ⟨w.heap.size + 1, 3, none⟩ = some (.slice fA2 fs.length fC2) := HT.out.b2.cell 3
                  go_wp2_with (go_at_call 44; refine (yes_of (eqf_F fs fs IF.out _ fA fA2 fC fC2 fb fo fb2 fo2 fv fv2 hf (fun h => ⟨(HFA.out h).1, Nat.lt_of_lt_of_le (HFA.out h).2 HT.out.be.size⟩) (fun h => ⟨(HFA2.out h).1, Nat.lt_of_lt_of_le (HFA2.out h).2 HT.out.be.size⟩) (fun i h => (HT.out.be.cell (p := ⟨fb, _, none⟩) (HFA.out (by omega)).2).trans (HF0.out i h)) (fun i h => (HT.out.be.cell (p := ⟨fb, _, none⟩) (HFA.out (by omega)).2).trans (HF1.out i h)) (fun i h k hk => (HT.out.be.cell (p := ⟨fb, _, none⟩) (HFA.out (by omega)).2).trans (HF2.out i h k hk)) (fun i h => ((HFT.out i h).later HT.out.be).up HT.out.be.size) (fun i h => (HT.out.be.cell (p := ⟨fb2, _, none⟩) (HFA2.out (by omega)).2).trans (GF0.out i h)) (fun i h => (HT.out.be.cell (p := ⟨fb2, _, none⟩) (HFA2.out (by omega)).2).trans (GF1.out i h)) (fun i h k hk => (HT.out.be.cell (p := ⟨fb2, _, none⟩) (HFA2.out (by omega)).2).trans (GF2.out i h k hk)) (fun i h => ((GFT.out i h).later HT.out.be).up HT.out.be.size)) rfl).mono ?_)
                  first
                    | rintro _ w2 rfl hb2
                    | rintro _ w2 ⟨rfl, hb2⟩
                  have HT1 := Lib.hid (HT.out.more (show Below _ _ _ by first | exact hb2 | (rw [size_alloc, size_alloc]; exact hb2)))
                  clear hb2 HT
                  clear p3 q3
                  have HT := Lib.hid HT1.out
                  clear HT1
                  go_wp2
                  go_ret
                  exact ⟨true, rfl, by simp, HT.out.be⟩

/-- The contract of slabvaultref09.Same at one type. -/
def RSameAt (x : Ty) : Prop := ∀ (y : Ty) (v u : Value) (w : World), TyAt w w.heap.size x v → TyAt w w.heap.size y u → Calls Try.prog 18 #[v, u] w fun e w' => ∃ b, e = .returned (.bool b) ∧ (b = true ↔ x = y) ∧ Below w.heap.size w w'

set_option maxHeartbeats 4000000 in
set_option maxRecDepth 100000 in
theorem rsame_any (x : Ty) : RSameAt x := by
  induction x using Ty.ind with
  | h c wd b fs ds bs ns ihf ihb =>
    intro y v u w ht hu
    have IF := Lib.hid ihf
    have IB := Lib.hid ihb
    clear ihf ihb
    cases ht with
    | mk _ _ _ _ _ _ _ fA dA bA nA fC dC bC nC fb fo db dO bb bo nb nO fv bv hf hd hb hn hfz hnz hnr hcap hfA hdA hbA hnA hf0 hf1 hf2 hft hd0 hb0 hbt hn0' hn1' =>
    cases hu with
    | mk c' wd' b' fs' ds' bs' ns' fA2 dA2 bA2 nA2 fC2 dC2 bC2 nC2 fb2 fo2 db2 dO2 bb2 bo2 nb2 nO2 fv2 bv2 hf' hd' hb' hn' _ _ _ hcap2 hfA2 hdA2 hbA2 hnA2 gf0 gf1 gf2 gft gd0 gb0 gbt gn0 gn1 =>
    have HF0 := Lib.hid hf0
    have HF1 := Lib.hid hf1
    have HF2 := Lib.hid hf2
    have HFT := Lib.hid hft
    have HD0 := Lib.hid hd0
    have HB0 := Lib.hid hb0
    have HBT := Lib.hid hbt
    have HN0 := Lib.hid hn0'
    have HN1 := Lib.hid hn1'
    have GF0 := Lib.hid gf0
    have GF1 := Lib.hid gf1
    have GF2 := Lib.hid gf2
    have GFT := Lib.hid gft
    have GD0 := Lib.hid gd0
    have GB0 := Lib.hid gb0
    have GBT := Lib.hid gbt
    have GN0 := Lib.hid gn0
    have GN1 := Lib.hid gn1
    have HFA := Lib.hid hfA
    have HDA := Lib.hid hdA
    have HBA := Lib.hid hbA
    have HNA := Lib.hid hnA
    have HFA2 := Lib.hid hfA2
    have HDA2 := Lib.hid hdA2
    have HBA2 := Lib.hid hbA2
    have HNA2 := Lib.hid hnA2
    clear hf0 hf1 hf2 hft hd0 hb0 hbt hn0' hn1' gf0 gf1 gf2 gft gd0 gb0 gbt gn0 gn1 hfA hdA hbA hnA hfA2 hdA2 hbA2 hnA2 hfz hnz hnr hcap hcap2
    by_cases h1 : c = c'
    case neg =>
      have n1 : (c != c') = true := by simp [bne, h1]
      have n2 : (c == c') = false := by simp [h1]
      have HT := Lib.hid (Two.new w 28 #[.int .i64 c, .int .i64 wd, .bool b, .slice fA fs.length fC, .slice dA ds.length dC, .slice bA bs.length bC, .slice nA ns.length nC] #[.int .i64 c', .int .i64 wd', .bool b', .slice fA2 fs'.length fC2, .slice dA2 ds'.length dC2, .slice bA2 bs'.length bC2, .slice nA2 ns'.length nC2])
      go_enter Try.func18, Try.ntmps18
      go_wp2
      go_ret
      exact ⟨false, rfl, by simp; intros; first | exact (h1 ‹_›).elim | (intro e; exact h1 (by rw [e])) | (subst_vars; simp at h1) | simp_all, HT.out.be⟩
    case pos =>
      subst h1
      by_cases h2 : wd = wd'
      case neg =>
        have n1 : (wd != wd') = true := by simp [bne, h2]
        have n2 : (wd == wd') = false := by simp [h2]
        have HT := Lib.hid (Two.new w 28 #[.int .i64 c, .int .i64 wd, .bool b, .slice fA fs.length fC, .slice dA ds.length dC, .slice bA bs.length bC, .slice nA ns.length nC] #[.int .i64 c, .int .i64 wd', .bool b', .slice fA2 fs'.length fC2, .slice dA2 ds'.length dC2, .slice bA2 bs'.length bC2, .slice nA2 ns'.length nC2])
        go_enter Try.func18, Try.ntmps18
        go_wp2
        go_ret
        exact ⟨false, rfl, by simp; intros; first | exact (h2 ‹_›).elim | (intro e; exact h2 (by rw [e])) | (subst_vars; simp at h2) | simp_all, HT.out.be⟩
      case pos =>
        subst h2
        by_cases h3 : b = b'
        case neg =>
          have n1 : (b != b') = true := by cases b <;> cases b' <;> simp_all
          have n2 : (b == b') = false := by cases b <;> cases b' <;> simp_all
          have HT := Lib.hid (Two.new w 28 #[.int .i64 c, .int .i64 wd, .bool b, .slice fA fs.length fC, .slice dA ds.length dC, .slice bA bs.length bC, .slice nA ns.length nC] #[.int .i64 c, .int .i64 wd, .bool b', .slice fA2 fs'.length fC2, .slice dA2 ds'.length dC2, .slice bA2 bs'.length bC2, .slice nA2 ns'.length nC2])
          go_enter Try.func18, Try.ntmps18
          go_wp2
          go_ret
          exact ⟨false, rfl, by simp; intros; first | exact (h3 ‹_›).elim | (intro e; exact h3 (by rw [e])) | (subst_vars; simp at h3) | simp_all, HT.out.be⟩
        case pos =>
          subst h3
          by_cases l1 : fs.length = fs'.length
          case neg =>
            have n1 : ((fs.length : Int) != (fs'.length : Int)) = true := by simp [bne]; omega
            have HT := Lib.hid (Two.new w 28 #[.int .i64 c, .int .i64 wd, .bool b, .slice fA fs.length fC, .slice dA ds.length dC, .slice bA bs.length bC, .slice nA ns.length nC] #[.int .i64 c, .int .i64 wd, .bool b, .slice fA2 fs'.length fC2, .slice dA2 ds'.length dC2, .slice bA2 bs'.length bC2, .slice nA2 ns'.length nC2])
            go_enter Try.func18, Try.ntmps18
            go_wp2
            go_ret
            exact ⟨false, rfl, by simp; intros; first | exact (l1 ‹_›).elim | (intro e; exact l1 (by rw [e])) | (subst_vars; simp at l1) | simp_all, HT.out.be⟩
          case pos =>
            rw [← l1]
            have HL1 := Lib.hid l1
            clear l1
            by_cases l2 : ds.length = ds'.length
            case neg =>
              have n1 : ((ds.length : Int) != (ds'.length : Int)) = true := by simp [bne]; omega
              have HT := Lib.hid (Two.new w 28 #[.int .i64 c, .int .i64 wd, .bool b, .slice fA fs.length fC, .slice dA ds.length dC, .slice bA bs.length bC, .slice nA ns.length nC] #[.int .i64 c, .int .i64 wd, .bool b, .slice fA2 fs.length fC2, .slice dA2 ds'.length dC2, .slice bA2 bs'.length bC2, .slice nA2 ns'.length nC2])
              go_enter Try.func18, Try.ntmps18
              go_wp2
              go_ret
              exact ⟨false, rfl, by simp; intros; first | exact (l2 ‹_›).elim | (intro e; exact l2 (by rw [e])) | (subst_vars; simp at l2) | simp_all, HT.out.be⟩
            case pos =>
              rw [← l2]
              have HL2 := Lib.hid l2
              clear l2
              by_cases l3 : bs.length = bs'.length
              case neg =>
                have n1 : ((bs.length : Int) != (bs'.length : Int)) = true := by simp [bne]; omega
                have HT := Lib.hid (Two.new w 28 #[.int .i64 c, .int .i64 wd, .bool b, .slice fA fs.length fC, .slice dA ds.length dC, .slice bA bs.length bC, .slice nA ns.length nC] #[.int .i64 c, .int .i64 wd, .bool b, .slice fA2 fs.length fC2, .slice dA2 ds.length dC2, .slice bA2 bs'.length bC2, .slice nA2 ns'.length nC2])
                go_enter Try.func18, Try.ntmps18
                go_wp2
                go_ret
                exact ⟨false, rfl, by simp; intros; first | exact (l3 ‹_›).elim | (intro e; exact l3 (by rw [e])) | (subst_vars; simp at l3) | simp_all, HT.out.be⟩
              case pos =>
                rw [← l3]
                have HL3 := Lib.hid l3
                clear l3
                by_cases l4 : ns.length = ns'.length
                case neg =>
                  have n1 : ((ns.length : Int) != (ns'.length : Int)) = true := by simp [bne]; omega
                  have HT := Lib.hid (Two.new w 28 #[.int .i64 c, .int .i64 wd, .bool b, .slice fA fs.length fC, .slice dA ds.length dC, .slice bA bs.length bC, .slice nA ns.length nC] #[.int .i64 c, .int .i64 wd, .bool b, .slice fA2 fs.length fC2, .slice dA2 ds.length dC2, .slice bA2 bs.length bC2, .slice nA2 ns'.length nC2])
                  go_enter Try.func18, Try.ntmps18
                  go_wp2
                  go_ret
                  exact ⟨false, rfl, by simp; intros; first | exact (l4 ‹_›).elim | (intro e; exact l4 (by rw [e])) | (subst_vars; simp at l4) | simp_all, HT.out.be⟩
                case pos =>
                  rw [← l4]
                  have HL4 := Lib.hid l4
                  clear l4
                  have HT := Lib.hid (Two.new w 28 #[.int .i64 c, .int .i64 wd, .bool b, .slice fA fs.length fC, .slice dA ds.length dC, .slice bA bs.length bC, .slice nA ns.length nC] #[.int .i64 c, .int .i64 wd, .bool b, .slice fA2 fs.length fC2, .slice dA2 ds.length dC2, .slice bA2 bs.length bC2, .slice nA2 ns.length nC2])
                  go_enter Try.func18, Try.ntmps18
                  go_wp2
                  go_loopw [5] (fun i wr => ∃ k : Nat, k ≤ fs.length ∧ i = .int .i64 k ∧ Two w wr 28 #[.int .i64 c, .int .i64 wd, .bool b, .slice fA fs.length fC, .slice dA ds.length dC, .slice bA bs.length bC, .slice nA ns.length nC] #[.int .i64 c, .int .i64 wd, .bool b, .slice fA2 fs.length fC2, .slice dA2 ds.length dC2, .slice bA2 bs.length bC2, .slice nA2 ns.length nC2] ∧ ∀ i, i < k → fs[i]? = fs'[i]?) (fun i _ => fs.length - (intOf i).toNat)
                  case atStart => exact ⟨0, Nat.zero_le _, rfl, HT.out, fun i h => absurd h (Nat.not_lt_zero _)⟩
                  case round =>
                    clear HT
                    obtain ⟨k, hk, rfl, hT, hall⟩ := hrel
                    have HT := Lib.hid hT
                    have HALL := Lib.hid hall
                    have c3 := hT.b1.cell 3
                    have c4 := hT.b1.cell 4
                    have d3 := hT.b2.cell 3
                    clear hT hall
                    by_cases hlt : k < fs.length
                    case pos =>
                      have hlt2 : k < fs'.length := by have := HL1.out; omega
                      obtain ⟨rfl, hnb⟩ := HFA.out (by omega)
                      obtain ⟨rfl, hnb2⟩ := HFA2.out (by omega)
                      have HNE := Lib.hid (fun h : fs[k] ≠ fs'[k] => ne_of_at hlt hlt2 h)
                      have HE0 := Lib.hid (show fs[k]? = fs'[k]? ↔ fs[k] = fs'[k] by rw [List.getElem?_eq_getElem hlt, List.getElem?_eq_getElem hlt2]; simp)
                      have g0 := (HT.out.be.cell (p := ⟨fb, fo + k * 9, none⟩) hnb).trans (HF0.out k hlt)
                      have g1 := (HT.out.be.cell (p := ⟨fb, fo + k * 9 + 1, none⟩) hnb).trans (HF1.out k hlt)
                      have a0 : wr.cell? ⟨fb, fo + k * 9 + 2, none⟩ = some (fv k 0) := (HT.out.be.cell (p := ⟨fb, _, none⟩) hnb).trans (HF2.out k hlt 0 (by omega))
                      have a1 : wr.cell? ⟨fb, fo + k * 9 + 2 + 1, none⟩ = some (fv k 1) := (HT.out.be.cell (p := ⟨fb, _, none⟩) hnb).trans (HF2.out k hlt 1 (by omega))
                      have a2 : wr.cell? ⟨fb, fo + k * 9 + 2 + 2, none⟩ = some (fv k 2) := (HT.out.be.cell (p := ⟨fb, _, none⟩) hnb).trans (HF2.out k hlt 2 (by omega))
                      have a3 : wr.cell? ⟨fb, fo + k * 9 + 2 + 3, none⟩ = some (fv k 3) := (HT.out.be.cell (p := ⟨fb, _, none⟩) hnb).trans (HF2.out k hlt 3 (by omega))
                      have a4 : wr.cell? ⟨fb, fo + k * 9 + 2 + 4, none⟩ = some (fv k 4) := (HT.out.be.cell (p := ⟨fb, _, none⟩) hnb).trans (HF2.out k hlt 4 (by omega))
                      have a5 : wr.cell? ⟨fb, fo + k * 9 + 2 + 5, none⟩ = some (fv k 5) := (HT.out.be.cell (p := ⟨fb, _, none⟩) hnb).trans (HF2.out k hlt 5 (by omega))
                      have a6 : wr.cell? ⟨fb, fo + k * 9 + 2 + 6, none⟩ = some (fv k 6) := (HT.out.be.cell (p := ⟨fb, _, none⟩) hnb).trans (HF2.out k hlt 6 (by omega))
                      have r0 := (HT.out.be.cell (p := ⟨fb2, fo2 + k * 9, none⟩) hnb2).trans (GF0.out k hlt2)
                      have r1 := (HT.out.be.cell (p := ⟨fb2, fo2 + k * 9 + 1, none⟩) hnb2).trans (GF1.out k hlt2)
                      have b0 : wr.cell? ⟨fb2, fo2 + k * 9 + 2, none⟩ = some (fv2 k 0) := (HT.out.be.cell (p := ⟨fb2, _, none⟩) hnb2).trans (GF2.out k hlt2 0 (by omega))
                      have b1 : wr.cell? ⟨fb2, fo2 + k * 9 + 2 + 1, none⟩ = some (fv2 k 1) := (HT.out.be.cell (p := ⟨fb2, _, none⟩) hnb2).trans (GF2.out k hlt2 1 (by omega))
                      have b2 : wr.cell? ⟨fb2, fo2 + k * 9 + 2 + 2, none⟩ = some (fv2 k 2) := (HT.out.be.cell (p := ⟨fb2, _, none⟩) hnb2).trans (GF2.out k hlt2 2 (by omega))
                      have b3 : wr.cell? ⟨fb2, fo2 + k * 9 + 2 + 3, none⟩ = some (fv2 k 3) := (HT.out.be.cell (p := ⟨fb2, _, none⟩) hnb2).trans (GF2.out k hlt2 3 (by omega))
                      have b4 : wr.cell? ⟨fb2, fo2 + k * 9 + 2 + 4, none⟩ = some (fv2 k 4) := (HT.out.be.cell (p := ⟨fb2, _, none⟩) hnb2).trans (GF2.out k hlt2 4 (by omega))
                      have b5 : wr.cell? ⟨fb2, fo2 + k * 9 + 2 + 5, none⟩ = some (fv2 k 5) := (HT.out.be.cell (p := ⟨fb2, _, none⟩) hnb2).trans (GF2.out k hlt2 5 (by omega))
                      have b6 : wr.cell? ⟨fb2, fo2 + k * 9 + 2 + 6, none⟩ = some (fv2 k 6) := (HT.out.be.cell (p := ⟨fb2, _, none⟩) hnb2).trans (GF2.out k hlt2 6 (by omega))
                      have hm := List.getElem_mem hlt
                      have HTd := Lib.hid HT.out.drew
                      have HX1 := Lib.hid (((HFT.out k hlt).later HTd.out.be).up HTd.out.be.size)
                      have HX2 := Lib.hid (((GFT.out k hlt2).later HTd.out.be).up HTd.out.be.size)
                      clear c4
                      generalize fs[k] = x at *
                      generalize fs'[k] = y at *
                      have HFE := Lib.hid (fd_eq (f := x) (g := y))
                      by_cases h0 : x.name = y.name
                      case pos =>
                        by_cases h1 : x.pos = y.pos
                        case pos =>
                          have H01 := Lib.hid (And.intro h0 h1)
                          rw [h0] at g0
                          rw [h1] at g1
                          clear h0 h1
                          generalize y.name = x0 at g0 r0
                          generalize y.pos = x1 at g1 r1
                          go_wp2
                          go_still_tail 41, (by kernel_rfl)
                          clear a0 b0 a1 b1 a2 b2 a3 b3 a4 b4 a5 b5 a6 b6 g0 g1 r0 r1 c3 d3
                          by_cases he : x.ty = y.ty
                          case pos =>
                            have HE := Lib.hid (HE0.out.mpr (HFE.out.mpr ⟨H01.out.1, H01.out.2, he⟩))
                            go_wp2_with (go_at_call 18; refine (yes_of (IF.out x hm y.ty _ _ _ HX1.out HX2.out) he).mono ?_)
                            first
                              | rintro _ w2 rfl hb2
                              | rintro _ w2 ⟨rfl, hb2⟩
                            have HT2 := Lib.hid (HTd.out.more hb2)
                            clear hb2
                            go_wp2
                            go_roundw
                            case rel => exact ⟨k + 1, by omega, by go_num, HT2.out, fun i hi => by
                              rcases Nat.lt_or_ge i k with h | h
                              · exact HALL.out i h
                              · rw [show i = k by omega]; exact HE.out⟩
                            case measure => simp [intOf]; omega
                          case neg =>
                            have HNE2 := Lib.hid (HNE.out (fun e => he (by rw [e])))
                            go_wp2_with (go_at_call 18; refine (no_of (IF.out x hm y.ty _ _ _ HX1.out HX2.out) he).mono ?_)
                            first
                              | rintro _ w2 rfl hb2
                              | rintro _ w2 ⟨rfl, hb2⟩
                            have HT2 := Lib.hid (HTd.out.more hb2)
                            clear hb2
                            go_wp2
                            go_ret
                            exact ⟨false, rfl, by simp; intros; simp_all [HNE2.out], HT2.out.be⟩
                        case neg =>
                          have HNE2 := Lib.hid (HNE.out (fun e => h1 (by rw [e])))
                          rw [h0] at g0
                          have n1 : (x.pos != y.pos) = true := by simp [bne, h1]
                          have n2 : (x.pos == y.pos) = false := by simp [h1]
                          clear h0 h1
                          generalize y.name = x0 at g0 r0
                          generalize y.pos = x1 at *
                          generalize x.pos = x2 at *
                          go_wp2
                          go_quiet (fail)
                          have HT2 := Lib.hid (HT.out.drewN nq)
                          clear a0 b0 a1 b1 a2 b2 a3 b3 a4 b4 a5 b5 a6 b6 g0 g1 r0 r1 c3 d3
                          go_wp2
                          go_ret
                          exact ⟨false, rfl, by simp; intros; simp_all [HNE2.out], HT2.out.be⟩
                      case neg =>
                        have HNE2 := Lib.hid (HNE.out (fun e => h0 (by rw [e])))
                        have n1 : (x.name.toList == y.name.toList) = false := (Go.Lib.bytes_beq_false_iff _ _).mpr h0
                        have n0 : (x.name.toList != y.name.toList) = true := by simp only [bne, n1]; rfl
                        clear h0
                        generalize x.name = x3 at *
                        generalize y.name = x4 at *
                        go_wp2
                        go_quiet (fail)
                        have HT2 := Lib.hid (HT.out.drewN nq)
                        clear a0 b0 a1 b1 a2 b2 a3 b3 a4 b4 a5 b5 a6 b6 g0 g1 r0 r1 c3 d3
                        go_wp2
                        go_ret
                        exact ⟨false, rfl, by simp; intros; simp_all [HNE2.out], HT2.out.be⟩
                    case neg =>
                      obtain rfl : k = fs.length := by omega
                      have HEL1 := Lib.hid (list_eq_of HL1.out HALL.out)
                      clear d3 HALL
                      have HT1 := Lib.hid HT.out
                      clear HT
                      go_wp2
                      clear c3 c4
                      have HT := Lib.hid HT1.out
                      clear HT1
                      go_loopw [6] (fun i wr => ∃ k : Nat, k ≤ ds.length ∧ i = .int .i64 k ∧ Two w wr 28 #[.int .i64 c, .int .i64 wd, .bool b, .slice fA fs.length fC, .slice dA ds.length dC, .slice bA bs.length bC, .slice nA ns.length nC] #[.int .i64 c, .int .i64 wd, .bool b, .slice fA2 fs.length fC2, .slice dA2 ds.length dC2, .slice bA2 bs.length bC2, .slice nA2 ns.length nC2] ∧ ∀ i, i < k → ds[i]? = ds'[i]?) (fun i _ => ds.length - (intOf i).toNat)
                      case atStart => exact ⟨0, Nat.zero_le _, rfl, HT.out, fun i h => absurd h (Nat.not_lt_zero _)⟩
                      case round =>
                        clear HT
                        obtain ⟨k, hk, rfl, hT, hall⟩ := hrel
                        have HT := Lib.hid hT
                        have HALL := Lib.hid hall
                        have c4 := hT.b1.cell 4
                        have c5 := hT.b1.cell 5
                        have d4 := hT.b2.cell 4
                        clear hT hall
                        by_cases hlt : k < ds.length
                        case pos =>
                          have hlt2 : k < ds'.length := by have := HL2.out; omega
                          obtain ⟨rfl, hnb⟩ := HDA.out (by omega)
                          obtain ⟨rfl, hnb2⟩ := HDA2.out (by omega)
                          have HNE := Lib.hid (fun h : ds[k] ≠ ds'[k] => ne_of_at hlt hlt2 h)
                          have HE0 := Lib.hid (show ds[k]? = ds'[k]? ↔ ds[k] = ds'[k] by rw [List.getElem?_eq_getElem hlt, List.getElem?_eq_getElem hlt2]; simp)
                          have g0 := (HT.out.be.cell (p := ⟨db, dO + k, none⟩) hnb).trans (HD0.out k hlt)
                          have r0 := (HT.out.be.cell (p := ⟨db2, dO2 + k, none⟩) hnb2).trans (GD0.out k hlt2)
                          generalize ds[k] = x0 at *
                          generalize ds'[k] = y0 at *
                          clear c5
                          by_cases he : x0 = y0
                          case pos =>
                            subst he
                            have HE := Lib.hid (HE0.out.mpr rfl)
                            have n0 : (x0 != x0) = false := by simp
                            go_wp2
                            go_quiet (fail)
                            have HT2 := Lib.hid (HT.out.drewN nq)
                            clear g0 r0 c4 d4
                            go_wp2
                            exact ⟨⟨k + 1, by omega, by go_num, HT2.out, fun i hi => by
                              rcases Nat.lt_or_ge i k with h | h
                              · exact HALL.out i h
                              · rw [show i = k by omega]; exact HE.out⟩, by simp [intOf]; omega⟩
                          case neg =>
                            have HNE2 := Lib.hid (HNE.out he)
                            have n0 : (x0 != y0) = true := by simp [bne, he]
                            clear he
                            go_wp2
                            go_quiet (fail)
                            have HT2 := Lib.hid (HT.out.drewN nq)
                            clear g0 r0 c4 d4
                            go_wp2
                            go_ret
                            exact ⟨false, rfl, by simp; intros; simp_all [HNE2.out], HT2.out.be⟩
                        case neg =>
                          obtain rfl : k = ds.length := by omega
                          have HEL2 := Lib.hid (list_eq_of HL2.out HALL.out)
                          clear d4 HALL
                          have HT1 := Lib.hid HT.out
                          clear HT
                          go_wp2
                          clear c4 c5
                          have HT := Lib.hid HT1.out
                          clear HT1
                          go_loopw [7] (fun i wr => ∃ k : Nat, k ≤ bs.length ∧ i = .int .i64 k ∧ Two w wr 28 #[.int .i64 c, .int .i64 wd, .bool b, .slice fA fs.length fC, .slice dA ds.length dC, .slice bA bs.length bC, .slice nA ns.length nC] #[.int .i64 c, .int .i64 wd, .bool b, .slice fA2 fs.length fC2, .slice dA2 ds.length dC2, .slice bA2 bs.length bC2, .slice nA2 ns.length nC2] ∧ ∀ i, i < k → bs[i]? = bs'[i]?) (fun i _ => bs.length - (intOf i).toNat)
                          case atStart => exact ⟨0, Nat.zero_le _, rfl, HT.out, fun i h => absurd h (Nat.not_lt_zero _)⟩
                          case round =>
                            clear HT
                            obtain ⟨k, hk, rfl, hT, hall⟩ := hrel
                            have HT := Lib.hid hT
                            have HALL := Lib.hid hall
                            have c5 := hT.b1.cell 5
                            have c6 := hT.b1.cell 6
                            have d5 := hT.b2.cell 5
                            clear hT hall
                            by_cases hlt : k < bs.length
                            case pos =>
                              have hlt2 : k < bs'.length := by have := HL3.out; omega
                              obtain ⟨rfl, hnb⟩ := HBA.out (by omega)
                              obtain ⟨rfl, hnb2⟩ := HBA2.out (by omega)
                              have HNE := Lib.hid (fun h : bs[k] ≠ bs'[k] => ne_of_at hlt hlt2 h)
                              have HE0 := Lib.hid (show bs[k]? = bs'[k]? ↔ bs[k] = bs'[k] by rw [List.getElem?_eq_getElem hlt, List.getElem?_eq_getElem hlt2]; simp)
                              have a0 : wr.cell? ⟨bb, bo + k * 7, none⟩ = some (bv k 0) := (HT.out.be.cell (p := ⟨bb, _, none⟩) hnb).trans (HB0.out k hlt 0 (by omega))
                              have a1 : wr.cell? ⟨bb, bo + k * 7 + 1, none⟩ = some (bv k 1) := (HT.out.be.cell (p := ⟨bb, _, none⟩) hnb).trans (HB0.out k hlt 1 (by omega))
                              have a2 : wr.cell? ⟨bb, bo + k * 7 + 2, none⟩ = some (bv k 2) := (HT.out.be.cell (p := ⟨bb, _, none⟩) hnb).trans (HB0.out k hlt 2 (by omega))
                              have a3 : wr.cell? ⟨bb, bo + k * 7 + 3, none⟩ = some (bv k 3) := (HT.out.be.cell (p := ⟨bb, _, none⟩) hnb).trans (HB0.out k hlt 3 (by omega))
                              have a4 : wr.cell? ⟨bb, bo + k * 7 + 4, none⟩ = some (bv k 4) := (HT.out.be.cell (p := ⟨bb, _, none⟩) hnb).trans (HB0.out k hlt 4 (by omega))
                              have a5 : wr.cell? ⟨bb, bo + k * 7 + 5, none⟩ = some (bv k 5) := (HT.out.be.cell (p := ⟨bb, _, none⟩) hnb).trans (HB0.out k hlt 5 (by omega))
                              have a6 : wr.cell? ⟨bb, bo + k * 7 + 6, none⟩ = some (bv k 6) := (HT.out.be.cell (p := ⟨bb, _, none⟩) hnb).trans (HB0.out k hlt 6 (by omega))
                              have b0 : wr.cell? ⟨bb2, bo2 + k * 7, none⟩ = some (bv2 k 0) := (HT.out.be.cell (p := ⟨bb2, _, none⟩) hnb2).trans (GB0.out k hlt2 0 (by omega))
                              have b1 : wr.cell? ⟨bb2, bo2 + k * 7 + 1, none⟩ = some (bv2 k 1) := (HT.out.be.cell (p := ⟨bb2, _, none⟩) hnb2).trans (GB0.out k hlt2 1 (by omega))
                              have b2 : wr.cell? ⟨bb2, bo2 + k * 7 + 2, none⟩ = some (bv2 k 2) := (HT.out.be.cell (p := ⟨bb2, _, none⟩) hnb2).trans (GB0.out k hlt2 2 (by omega))
                              have b3 : wr.cell? ⟨bb2, bo2 + k * 7 + 3, none⟩ = some (bv2 k 3) := (HT.out.be.cell (p := ⟨bb2, _, none⟩) hnb2).trans (GB0.out k hlt2 3 (by omega))
                              have b4 : wr.cell? ⟨bb2, bo2 + k * 7 + 4, none⟩ = some (bv2 k 4) := (HT.out.be.cell (p := ⟨bb2, _, none⟩) hnb2).trans (GB0.out k hlt2 4 (by omega))
                              have b5 : wr.cell? ⟨bb2, bo2 + k * 7 + 5, none⟩ = some (bv2 k 5) := (HT.out.be.cell (p := ⟨bb2, _, none⟩) hnb2).trans (GB0.out k hlt2 5 (by omega))
                              have b6 : wr.cell? ⟨bb2, bo2 + k * 7 + 6, none⟩ = some (bv2 k 6) := (HT.out.be.cell (p := ⟨bb2, _, none⟩) hnb2).trans (GB0.out k hlt2 6 (by omega))
                              have hm := List.getElem_mem hlt
                              have HTd := Lib.hid HT.out.drew
                              have HX1 := Lib.hid (((HBT.out k hlt).later HTd.out.be).up HTd.out.be.size)
                              have HX2 := Lib.hid (((GBT.out k hlt2).later HTd.out.be).up HTd.out.be.size)
                              clear c6
                              generalize bs[k] = x at *
                              generalize bs'[k] = y at *
                              go_wp2
                              go_still_tail 10, (by kernel_rfl)
                              clear a0 b0 a1 b1 a2 b2 a3 b3 a4 b4 a5 b5 a6 b6 c5 d5
                              by_cases he : x = y
                              case pos =>
                                have HE := Lib.hid (HE0.out.mpr (he))
                                go_wp2_with (go_at_call 18; refine (yes_of (IB.out x hm y _ _ _ HX1.out HX2.out) he).mono ?_)
                                first
                                  | rintro _ w2 rfl hb2
                                  | rintro _ w2 ⟨rfl, hb2⟩
                                have HT2 := Lib.hid (HTd.out.more hb2)
                                clear hb2
                                go_wp2
                                go_roundw
                                case rel => exact ⟨k + 1, by omega, by go_num, HT2.out, fun i hi => by
                                  rcases Nat.lt_or_ge i k with h | h
                                  · exact HALL.out i h
                                  · rw [show i = k by omega]; exact HE.out⟩
                                case measure => simp [intOf]; omega
                              case neg =>
                                have HNE2 := Lib.hid (HNE.out (he))
                                go_wp2_with (go_at_call 18; refine (no_of (IB.out x hm y _ _ _ HX1.out HX2.out) he).mono ?_)
                                first
                                  | rintro _ w2 rfl hb2
                                  | rintro _ w2 ⟨rfl, hb2⟩
                                have HT2 := Lib.hid (HTd.out.more hb2)
                                clear hb2
                                go_wp2
                                go_ret
                                exact ⟨false, rfl, by simp; intros; simp_all [HNE2.out], HT2.out.be⟩
                            case neg =>
                              obtain rfl : k = bs.length := by omega
                              have HEL3 := Lib.hid (list_eq_of HL3.out HALL.out)
                              clear d5 HALL
                              have HT1 := Lib.hid HT.out
                              clear HT
                              go_wp2
                              clear c5 c6
                              have HT := Lib.hid HT1.out
                              clear HT1
                              go_loopw [8] (fun i wr => ∃ k : Nat, k ≤ ns.length ∧ i = .int .i64 k ∧ Two w wr 28 #[.int .i64 c, .int .i64 wd, .bool b, .slice fA fs.length fC, .slice dA ds.length dC, .slice bA bs.length bC, .slice nA ns.length nC] #[.int .i64 c, .int .i64 wd, .bool b, .slice fA2 fs.length fC2, .slice dA2 ds.length dC2, .slice bA2 bs.length bC2, .slice nA2 ns.length nC2] ∧ ∀ i, i < k → ns[i]? = ns'[i]?) (fun i _ => ns.length - (intOf i).toNat)
                              case atStart => exact ⟨0, Nat.zero_le _, rfl, HT.out, fun i h => absurd h (Nat.not_lt_zero _)⟩
                              case round =>
                                clear HT
                                obtain ⟨k, hk, rfl, hT, hall⟩ := hrel
                                have HT := Lib.hid hT
                                have HALL := Lib.hid hall
                                have c6 := hT.b1.cell 6
                                have d6 := hT.b2.cell 6
                                clear hT hall
                                by_cases hlt : k < ns.length
                                case pos =>
                                  have hlt2 : k < ns'.length := by have := HL4.out; omega
                                  obtain ⟨rfl, hnb⟩ := HNA.out (by omega)
                                  obtain ⟨rfl, hnb2⟩ := HNA2.out (by omega)
                                  have HNE := Lib.hid (fun h : ns[k] ≠ ns'[k] => ne_of_at hlt hlt2 h)
                                  have HE0 := Lib.hid (show ns[k]? = ns'[k]? ↔ ns[k] = ns'[k] by rw [List.getElem?_eq_getElem hlt, List.getElem?_eq_getElem hlt2]; simp)
                                  have g0 := (HT.out.be.cell (p := ⟨nb, nO + k * 2, none⟩) hnb).trans (HN0.out k hlt)
                                  have g1 := (HT.out.be.cell (p := ⟨nb, nO + k * 2 + 1, none⟩) hnb).trans (HN1.out k hlt)
                                  have r0 := (HT.out.be.cell (p := ⟨nb2, nO2 + k * 2, none⟩) hnb2).trans (GN0.out k hlt2)
                                  have r1 := (HT.out.be.cell (p := ⟨nb2, nO2 + k * 2 + 1, none⟩) hnb2).trans (GN1.out k hlt2)
                                  generalize ns[k] = x at *
                                  generalize ns'[k] = y at *
                                  obtain ⟨x0, x1⟩ := x
                                  obtain ⟨y0, y1⟩ := y
                                  simp only [] at g0 g1 r0 r1
                                  by_cases h0 : x0 = y0
                                  case pos =>
                                    subst h0
                                    by_cases h1 : x1 = y1
                                    case pos =>
                                      subst h1
                                      have HE := Lib.hid (HE0.out.mpr rfl)
                                      have n0 : (x1 != x1) = false := by simp
                                      have n1 : (x1 == x1) = true := by simp
                                      go_wp2
                                      go_quiet (fail)
                                      have HT2 := Lib.hid (HT.out.drewN nq)
                                      clear g0 g1 r0 r1 c6 d6
                                      go_wp2
                                      exact ⟨⟨k + 1, by omega, by go_num, HT2.out, fun i hi => by
                                        rcases Nat.lt_or_ge i k with h | h
                                        · exact HALL.out i h
                                        · rw [show i = k by omega]; exact HE.out⟩, by simp [intOf]; omega⟩
                                    case neg =>
                                      have HNE2 := Lib.hid (HNE.out (fun e => h1 (congrArg Prod.snd e)))
                                      have n0 : (x1 != y1) = true := by simp [bne, h1]
                                      have n1 : (x1 == y1) = false := by simp [h1]
                                      clear h1
                                      go_wp2
                                      go_quiet (fail)
                                      have HT2 := Lib.hid (HT.out.drewN nq)
                                      clear g0 g1 r0 r1 c6 d6
                                      go_wp2
                                      go_ret
                                      exact ⟨false, rfl, by simp; intros; simp_all [HNE2.out], HT2.out.be⟩
                                  case neg =>
                                    have HNE2 := Lib.hid (HNE.out (fun e => h0 (congrArg Prod.fst e)))
                                    have n1 : (x0.toList == y0.toList) = false := (Go.Lib.bytes_beq_false_iff _ _).mpr h0
                                    have n0 : (x0.toList != y0.toList) = true := by simp only [bne, n1]; rfl
                                    clear h0
                                    go_wp2
                                    go_quiet (fail)
                                    have HT2 := Lib.hid (HT.out.drewN nq)
                                    clear g0 g1 r0 r1 c6 d6
                                    go_wp2
                                    go_ret
                                    exact ⟨false, rfl, by simp; intros; simp_all [HNE2.out], HT2.out.be⟩
                                case neg =>
                                  obtain rfl : k = ns.length := by omega
                                  have HEL4 := Lib.hid (list_eq_of HL4.out HALL.out)
                                  go_wp2
                                  go_ret
                                  exact ⟨true, rfl, by simp; exact ⟨HEL1.out, HEL2.out, HEL3.out, HEL4.out⟩, HT.out.be⟩
end Go.Proofs.Ytbdhihgokkcmfaa.Ty9

