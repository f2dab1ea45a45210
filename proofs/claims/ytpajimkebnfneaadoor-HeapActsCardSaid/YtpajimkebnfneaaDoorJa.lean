/- Reading numbers. -/
import Derived.Test.YtpajimkebnfneaaDoorOa
import Derived.Deep.DeepCutAuto
import Derived.Deep.RegionHeld3
import Derived.Deep.RegionLaw
import Derived.Laws.Bits64
import Derived.Laws.Bits64b
namespace Go.Proofs.YtpajimkebnfneaaDoor.Ty9
set_option linter.unusedVariables false
set_option linter.unusedSimpArgs false
open Go.RowKit Wd

/-- The number that bytes make, the lowest first. -/
def lval : List Nat → Nat
  | [] => 0
  | x :: xs => x + 256 * lval xs
theorem lval_snoc : ∀ (xs : List Nat) (x : Nat), lval (xs ++ [x]) = lval xs + x * 256 ^ xs.length
  | [], x => by simp [lval]
  | y :: xs, x => by
    rw [List.cons_append, lval, lval, lval_snoc xs x, List.length_cons, Nat.pow_succ, Nat.mul_add, Nat.add_assoc]
    congr 2
    rw [Nat.mul_left_comm, Nat.mul_comm (256 ^ xs.length) 256]
theorem lval_lt : ∀ (xs : List Nat), (∀ x ∈ xs, x < 256) → lval xs < 256 ^ xs.length
  | [], _ => by simp [lval]
  | x :: xs, h => by
    have h1 := h x List.mem_cons_self
    have h2 := lval_lt xs fun y hy => h y (List.mem_cons_of_mem _ hy)
    rw [lval, List.length_cons, Nat.pow_succ]
    omega
/-- Bytes, the lowest first. -/
def lows (big : Bool) (xs : List Nat) : List Nat := if big then xs.reverse else xs
theorem lows_len (big : Bool) (xs : List Nat) : (lows big xs).length = xs.length := by unfold lows; split <;> simp
theorem lows_get (big : Bool) {xs : List Nat} {k : Nat} (h : k < xs.length) : (lows big xs)[k]? = xs[pos big xs.length k]? := by
  unfold lows pos
  cases big
  · rfl
  · simp only [if_true]; rw [List.getElem?_reverse h]
theorem lows_mem {big : Bool} {xs : List Nat} {x : Nat} (h : x ∈ lows big xs) : x ∈ xs := by
  unfold lows at h; split at h
  · exact List.mem_reverse.mp h
  · exact h
theorem or_at {s u x : Nat} (hu : u < 2 ^ s) : u ||| x * 2 ^ s = u + x * 2 ^ s := by
  rw [← Nat.shiftLeft_eq, Nat.or_comm, ← Nat.shiftLeft_add_eq_or_of_lt hu, Nat.add_comm]
theorem or_u64 {s u x : Nat} (hs : s ≤ 56) (hu : u < 2 ^ s) (hx : x < 256) : bits .or .u64 (u : Int) ((x * 2 ^ s : Nat) : Int) = ((u + x * 2 ^ s : Nat) : Int) := by
  have h1 : 2 ^ s ≤ 2 ^ 56 := Nat.pow_le_pow_right (by omega) hs
  have h2 : x * 2 ^ s ≤ 255 * 2 ^ 56 := Nat.mul_le_mul (by omega) h1
  rw [bits_or_u64_nat u (x * 2 ^ s) (by omega) (by omega), or_at hu]

set_option maxHeartbeats 2000000 in
theorem get1_any (g o k u x gu : Nat) (w : World) (hk : k < 8) (hu : u < 256 ^ k) (hx : x < 256) (hB : w.cell? ⟨g, o, none⟩ = some (.int .u8 x)) (hU : w.cell? ⟨gu, 0, none⟩ = some (.int .u64 u)) (hz : w.frozen? ⟨gu, 0, none⟩ = false) :
    Calls Tryd.prog 42 #[.pointer (some ⟨g, o, none⟩), .int .i64 (8 * (k : Int)), .pointer (some ⟨gu, 0, none⟩)] w fun e w' => e = .returned (.tuple #[]) ∧ w' = (w.setCell ⟨gu, 0, none⟩ (.int .u64 ((u + x * 256 ^ k : Nat) : Int))).drew := by
  have hn : k = 0 ∨ k = 1 ∨ k = 2 ∨ k = 3 ∨ k = 4 ∨ k = 5 ∨ k = 6 ∨ k = 7 := by omega
  have w1 : IntKind.u64.wrap (x : Int) = (x : Int) := by rw [IntKind.wrap_u64]; omega
  have q0 : k = 0 → bits .or .u64 (u : Int) (IntKind.u64.wrap (x * 1 : Int)) = ((u + x * 256 ^ k : Nat) : Int) := fun e => by
    subst e
    rw [IntKind.wrap_u64, show ((x : Int) * 1 % 18446744073709551616) = ((x * 2 ^ 0 : Nat) : Int) by omega, or_u64 (by omega) hu hx]
  have q1 : k = 1 → bits .or .u64 (u : Int) (IntKind.u64.wrap (x * 256 : Int)) = ((u + x * 256 ^ k : Nat) : Int) := fun e => by
    subst e
    rw [IntKind.wrap_u64, show ((x : Int) * 256 % 18446744073709551616) = ((x * 2 ^ 8 : Nat) : Int) by omega, or_u64 (by omega) hu hx]
  have q2 : k = 2 → bits .or .u64 (u : Int) (IntKind.u64.wrap (x * 65536 : Int)) = ((u + x * 256 ^ k : Nat) : Int) := fun e => by
    subst e
    rw [IntKind.wrap_u64, show ((x : Int) * 65536 % 18446744073709551616) = ((x * 2 ^ 16 : Nat) : Int) by omega, or_u64 (by omega) hu hx]
  have q3 : k = 3 → bits .or .u64 (u : Int) (IntKind.u64.wrap (x * 16777216 : Int)) = ((u + x * 256 ^ k : Nat) : Int) := fun e => by
    subst e
    rw [IntKind.wrap_u64, show ((x : Int) * 16777216 % 18446744073709551616) = ((x * 2 ^ 24 : Nat) : Int) by omega, or_u64 (by omega) hu hx]
  have q4 : k = 4 → bits .or .u64 (u : Int) (IntKind.u64.wrap (x * 4294967296 : Int)) = ((u + x * 256 ^ k : Nat) : Int) := fun e => by
    subst e
    rw [IntKind.wrap_u64, show ((x : Int) * 4294967296 % 18446744073709551616) = ((x * 2 ^ 32 : Nat) : Int) by omega, or_u64 (by omega) hu hx]
  have q5 : k = 5 → bits .or .u64 (u : Int) (IntKind.u64.wrap (x * 1099511627776 : Int)) = ((u + x * 256 ^ k : Nat) : Int) := fun e => by
    subst e
    rw [IntKind.wrap_u64, show ((x : Int) * 1099511627776 % 18446744073709551616) = ((x * 2 ^ 40 : Nat) : Int) by omega, or_u64 (by omega) hu hx]
  have q6 : k = 6 → bits .or .u64 (u : Int) (IntKind.u64.wrap (x * 281474976710656 : Int)) = ((u + x * 256 ^ k : Nat) : Int) := fun e => by
    subst e
    rw [IntKind.wrap_u64, show ((x : Int) * 281474976710656 % 18446744073709551616) = ((x * 2 ^ 48 : Nat) : Int) by omega, or_u64 (by omega) hu hx]
  have q7 : k = 7 → bits .or .u64 (u : Int) (IntKind.u64.wrap (x * 72057594037927936 : Int)) = ((u + x * 256 ^ k : Nat) : Int) := fun e => by
    subst e
    rw [IntKind.wrap_u64, show ((x : Int) * 72057594037927936 % 18446744073709551616) = ((x * 2 ^ 56 : Nat) : Int) by omega, or_u64 (by omega) hu hx]
  rcases hn with rfl | rfl | rfl | rfl | rfl | rfl | rfl | rfl
  · have q := q0 rfl
    rw [Int.mul_one, w1] at q
    have hv : ((u + x * 256 ^ 0 : Nat) : Int) = (u : Int) + (x : Int) := by simp
    rw [hv] at q
    have HV := Lib.hid hv
    clear q0 q1 q2 q3 q4 q5 q6 q7 hu hv
    go_enter Tryd.func42, Tryd.ntmps42
    go_upto_region 0 with fail
    go_region_law (fail)
    all_goals
      go_end0
      refine ⟨rfl, ?_⟩
      rw [HV.out]
  · have q := q1 rfl
    have hv : ((u + x * 256 ^ 1 : Nat) : Int) = (u : Int) + (x : Int) * 256 := by simp
    rw [hv] at q
    have HV := Lib.hid hv
    clear q0 q1 q2 q3 q4 q5 q6 q7 hu hv
    go_enter Tryd.func42, Tryd.ntmps42
    go_upto_region 0 with fail
    go_region_law (fail)
    all_goals
      go_end0
      refine ⟨rfl, ?_⟩
      rw [HV.out]
  · have q := q2 rfl
    have hv : ((u + x * 256 ^ 2 : Nat) : Int) = (u : Int) + (x : Int) * 65536 := by simp
    rw [hv] at q
    have HV := Lib.hid hv
    clear q0 q1 q2 q3 q4 q5 q6 q7 hu hv
    go_enter Tryd.func42, Tryd.ntmps42
    go_upto_region 0 with fail
    go_region_law (fail)
    all_goals
      go_end0
      refine ⟨rfl, ?_⟩
      rw [HV.out]
  · have q := q3 rfl
    have hv : ((u + x * 256 ^ 3 : Nat) : Int) = (u : Int) + (x : Int) * 16777216 := by simp
    rw [hv] at q
    have HV := Lib.hid hv
    clear q0 q1 q2 q3 q4 q5 q6 q7 hu hv
    go_enter Tryd.func42, Tryd.ntmps42
    go_upto_region 0 with fail
    go_region_law (fail)
    all_goals
      go_end0
      refine ⟨rfl, ?_⟩
      rw [HV.out]
  · have q := q4 rfl
    have hv : ((u + x * 256 ^ 4 : Nat) : Int) = (u : Int) + (x : Int) * 4294967296 := by simp
    rw [hv] at q
    have HV := Lib.hid hv
    clear q0 q1 q2 q3 q4 q5 q6 q7 hu hv
    go_enter Tryd.func42, Tryd.ntmps42
    go_upto_region 0 with fail
    go_region_law (fail)
    all_goals
      go_end0
      refine ⟨rfl, ?_⟩
      rw [HV.out]
  · have q := q5 rfl
    have hv : ((u + x * 256 ^ 5 : Nat) : Int) = (u : Int) + (x : Int) * 1099511627776 := by simp
    rw [hv] at q
    have HV := Lib.hid hv
    clear q0 q1 q2 q3 q4 q5 q6 q7 hu hv
    go_enter Tryd.func42, Tryd.ntmps42
    go_upto_region 0 with fail
    go_region_law (fail)
    all_goals
      go_end0
      refine ⟨rfl, ?_⟩
      rw [HV.out]
  · have q := q6 rfl
    have hv : ((u + x * 256 ^ 6 : Nat) : Int) = (u : Int) + (x : Int) * 281474976710656 := by simp
    rw [hv] at q
    have HV := Lib.hid hv
    clear q0 q1 q2 q3 q4 q5 q6 q7 hu hv
    go_enter Tryd.func42, Tryd.ntmps42
    go_upto_region 0 with fail
    go_region_law (fail)
    all_goals
      go_end0
      refine ⟨rfl, ?_⟩
      rw [HV.out]
  · have q := q7 rfl
    have hv : ((u + x * 256 ^ 7 : Nat) : Int) = (u : Int) + (x : Int) * 72057594037927936 := by simp
    rw [hv] at q
    have HV := Lib.hid hv
    clear q0 q1 q2 q3 q4 q5 q6 q7 hu hv
    go_enter Tryd.func42, Tryd.ntmps42
    go_upto_region 0 with fail
    go_region_law (fail)
    all_goals
      go_end0
      refine ⟨rfl, ?_⟩
      rw [HV.out]

theorem get_row {xs : List Nat} {n k : Nat} (big : Bool) (hx : xs.length = n) (h : k < n) (hp : pos big n k < xs.length) : lval ((lows big xs).take (k + 1)) = lval ((lows big xs).take k) + xs[pos big n k] * 256 ^ k := by
  have hl : k < (lows big xs).length := by rw [lows_len, hx]; exact h
  have e : (lows big xs)[k] = xs[pos big n k] := by
    have := lows_get big (xs := xs) (k := k) (by omega)
    rw [List.getElem?_eq_getElem hl, hx, List.getElem?_eq_getElem hp] at this
    exact Option.some.inj this
  rw [List.take_succ_eq_append_getElem hl, lval_snoc, e, List.length_take, Nat.min_eq_left (Nat.le_of_lt hl)]
theorem get_small {xs : List Nat} (big : Bool) (hlt : ∀ x ∈ xs, x < 256) {k : Nat} (h : k ≤ xs.length) : lval ((lows big xs).take k) < 256 ^ k := by
  have := lval_lt ((lows big xs).take k) (fun x hx => hlt x (lows_mem (List.mem_of_mem_take hx)))
  rwa [List.length_take, Nat.min_eq_left (by rw [lows_len]; exact h)] at this

set_option maxHeartbeats 2000000 in
set_option maxRecDepth 100000 in
theorem digits_get (big : Bool) (n gu g off cc : Nat) (xs : List Nat) (w : World) (hn : n ≤ 8) (hcc : n ≤ cc) (hx : xs.length = n) (hlt : ∀ x ∈ xs, x < 256) (hne : gu ≠ g) (hg : 0 < n → g < w.heap.size)
    (hc : ∀ j (h : j < xs.length), w.cell? ⟨g, off + j, none⟩ = some (.int .u8 xs[j])) (hB : Bx w gu 68 #[.int .u64 0]) :
    Calls Tryd.prog 39 #[.slice (some ⟨g, off, none⟩) n cc, .bool big, .func (.func 42) #[] #[.pointer (some ⟨gu, 0, none⟩)]] w fun e w' => e = .returned (.tuple #[]) ∧ Bx w' gu 68 #[.int .u64 (lval (lows big xs))] ∧ w.grownBy w' (some gu) := by
  have HB0 := Lib.hid hB
  have HC := Lib.hid hc
  have HG := Lib.hid hg
  have HLT := Lib.hid hlt
  have HX := Lib.hid hx
  clear hB hc hg hlt hx
  cases big
  · go_enter Tryd.func39, Tryd.ntmps39
    go_wp2
    go_loopw [10] (fun i wr => ∃ k : Nat, k ≤ n ∧ i = .int .i64 k ∧ Bx wr gu 68 #[.int .u64 (lval ((lows false xs).take k))] ∧ w.grownBy wr (some gu)) (fun i _ => n - (intOf i).toNat)
    case atStart => exact ⟨0, Nat.zero_le _, rfl, HB0.out, World.grownBy.refl _ _⟩
    case round =>
      obtain ⟨k, hk, rfl, hB, hG⟩ := hrel
      have HB := Lib.hid hB
      have HGR := Lib.hid hG
      clear hB hG
      by_cases hlt : k < n
      · have hp : pos false n k < xs.length := by rw [HX.out]; exact pos_lt hlt
        have hcell := (World.cell?_of_block (w := w) (w' := wr) (a := ⟨g, off + pos false n k, none⟩) (HGR.out.block g (HG.out (by omega)) (fun e => hne (by injection e with e; exact e.symm)))).trans (HC.out _ hp)
        have HCELL := Lib.hid (show wr.cell? ⟨g, off + k, none⟩ = some (.int .u8 xs[pos false n k]) from hcell)
        have HV := Lib.hid (get_row false HX.out hlt hp)
        have HSM := Lib.hid (get_small false HLT.out (k := k) (by rw [HX.out]; omega))
        have HXL := Lib.hid (HLT.out _ (List.getElem_mem hp))
        have k7 : k < 8 := by omega
        clear hcell
        generalize xs[pos false n k] = x at *
        go_wp2_with (go_at_call 42; refine (get1_any g (off + k) k _ x gu _ k7 HSM.out HXL.out HCELL.out (HB.out.cell 0) (HB.out.frozen 0)).mono ?_)
        rintro _ w2 ⟨rfl, rfl⟩
        have hb2 := (HB.out.set_ 0 (.int .u64 ((lval ((lows false xs).take k) + x * 256 ^ k : Nat) : Int))).drew
        rw [← HV.out] at hb2
        have HB2 := Lib.hid (show Bx ((wr.setCell ⟨gu, 0, none⟩ (.int .u64 (lval ((lows false xs).take (k + 1))))).drew) gu 68 #[.int .u64 (lval ((lows false xs).take (k + 1)))] from hb2)
        have HG2 := Lib.hid (grown_trans (grown_set HGR.out 0 (.int .u64 (lval ((lows false xs).take (k + 1))))) (show (wr.setCell ⟨gu, 0, none⟩ (.int .u64 (lval ((lows false xs).take (k + 1))))).grownBy ((wr.setCell ⟨gu, 0, none⟩ (.int .u64 (lval ((lows false xs).take (k + 1))))).drew) (some gu) from ⟨rfl, rfl, rfl, Nat.le_refl _, fun _ _ _ => rfl⟩))
        rw [← HV.out]
        clear hb2
        generalize hz : lval ((lows false xs).take (k + 1)) = z at *
        have HZ := Lib.hid hz
        clear hz
        go_wp2
        go_roundw
        case rel => exact ⟨k + 1, by omega, by go_num, by rw [HZ.out]; exact HB2.out, HG2.out⟩
        case measure => simp [intOf]; omega
      · obtain rfl : k = n := by omega
        have hb := HB.out
        rw [List.take_of_length_le (by rw [lows_len, HX.out]; exact Nat.le_refl _)] at hb
        have HB2 := Lib.hid hb
        clear hb
        go_wp2
        go_end0
        exact ⟨rfl, HB2.out, HGR.out⟩
  · go_enter Tryd.func39, Tryd.ntmps39
    go_wp2
    go_loopw [10] (fun i wr => ∃ k : Nat, k ≤ n ∧ i = .int .i64 k ∧ Bx wr gu 68 #[.int .u64 (lval ((lows true xs).take k))] ∧ w.grownBy wr (some gu)) (fun i _ => n - (intOf i).toNat)
    case atStart => exact ⟨0, Nat.zero_le _, rfl, HB0.out, World.grownBy.refl _ _⟩
    case round =>
      obtain ⟨k, hk, rfl, hB, hG⟩ := hrel
      have HB := Lib.hid hB
      have HGR := Lib.hid hG
      clear hB hG
      by_cases hlt : k < n
      · have hp : pos true n k < xs.length := by rw [HX.out]; exact pos_lt hlt
        have hcell := (World.cell?_of_block (w := w) (w' := wr) (a := ⟨g, off + pos true n k, none⟩) (HGR.out.block g (HG.out (by omega)) (fun e => hne (by injection e with e; exact e.symm)))).trans (HC.out _ hp)
        have HCELL := Lib.hid (show wr.cell? ⟨g, off + (n - 1 - k), none⟩ = some (.int .u8 xs[pos true n k]) from hcell)
        have HV := Lib.hid (get_row true HX.out hlt hp)
        have HSM := Lib.hid (get_small true HLT.out (k := k) (by rw [HX.out]; omega))
        have HXL := Lib.hid (HLT.out _ (List.getElem_mem hp))
        have k7 : k < 8 := by omega
        clear hcell
        generalize xs[pos true n k] = x at *
        go_wp2_with (go_at_call 42; refine (get1_any g (off + (n - 1 - k)) k _ x gu _ k7 HSM.out HXL.out HCELL.out (HB.out.cell 0) (HB.out.frozen 0)).mono ?_)
        rintro _ w2 ⟨rfl, rfl⟩
        have hb2 := (HB.out.set_ 0 (.int .u64 ((lval ((lows true xs).take k) + x * 256 ^ k : Nat) : Int))).drew
        rw [← HV.out] at hb2
        have HB2 := Lib.hid (show Bx ((wr.setCell ⟨gu, 0, none⟩ (.int .u64 (lval ((lows true xs).take (k + 1))))).drew) gu 68 #[.int .u64 (lval ((lows true xs).take (k + 1)))] from hb2)
        have HG2 := Lib.hid (grown_trans (grown_set HGR.out 0 (.int .u64 (lval ((lows true xs).take (k + 1))))) (show (wr.setCell ⟨gu, 0, none⟩ (.int .u64 (lval ((lows true xs).take (k + 1))))).grownBy ((wr.setCell ⟨gu, 0, none⟩ (.int .u64 (lval ((lows true xs).take (k + 1))))).drew) (some gu) from ⟨rfl, rfl, rfl, Nat.le_refl _, fun _ _ _ => rfl⟩))
        rw [← HV.out]
        clear hb2
        generalize hz : lval ((lows true xs).take (k + 1)) = z at *
        have HZ := Lib.hid hz
        clear hz
        go_wp2
        go_roundw
        case rel => exact ⟨k + 1, by omega, by go_num, by rw [HZ.out]; exact HB2.out, HG2.out⟩
        case measure => simp [intOf]; omega
      · obtain rfl : k = n := by omega
        have hb := HB.out
        rw [List.take_of_length_le (by rw [lows_len, HX.out]; exact Nat.le_refl _)] at hb
        have HB2 := Lib.hid hb
        clear hb
        go_wp2
        go_end0
        exact ⟨rfl, HB2.out, HGR.out⟩

theorem Byt.part {w : World} {B : Nat} {A : Option Addr} {m : Nat} {bs : List Nat} (h : Byt w B A m bs) {p n : Nat} (hp : p + n ≤ m) (hn : 0 < n) : ∃ b o, A = some ⟨b, o, none⟩ ∧ b < B ∧ ((bs.drop p).take n).length = n ∧ (∀ x ∈ (bs.drop p).take n, x < 256) ∧
    ∀ j (hj : j < ((bs.drop p).take n).length), w.cell? ⟨b, o + p + j, none⟩ = some (.int .u8 ((bs.drop p).take n)[j]) := by
  obtain ⟨b, o, e, hb, hc⟩ := h.at_ (by omega)
  have hl := h.len
  have hlen : ((bs.drop p).take n).length = n := by rw [List.length_take, List.length_drop]; omega
  refine ⟨b, o, e, hb, hlen, fun x hx => h.lt x (List.mem_of_mem_drop (List.mem_of_mem_take hx)), fun j hj => ?_⟩
  have := hc (p + j) (by omega)
  rw [Nat.add_assoc, this]
  simp

set_option maxHeartbeats 2000000 in
set_option maxRecDepth 100000 in
theorem oget_ok (big : Bool) (n p m c : Nat) (A : Option Addr) (bs : List Nat) (w : World) (h1 : 1 ≤ n) (h8 : n ≤ 8) (hm : m ≤ 140737488355328) (hc : m ≤ c) (hp : p + n ≤ m) (hb : Byt w w.heap.size A m bs) :
    Calls Tryd.prog 30 #[.slice A m c, .int .i64 p, .int .i64 n, .bool big] w fun e w' => e = .returned (.tuple #[.int .u64 (lval (lows big ((bs.drop p).take n))), .int .i64 0]) ∧ Below w.heap.size w w' := by
  obtain ⟨b, o, rfl, hbb, hlen, hlt, hcell⟩ := hb.part hp (by omega)
  generalize (bs.drop p).take n = xs at *
  have HBN := Lib.hid (below_new w (.cells #[.int .u64 0] 68))
  have HBX := Lib.hid (Bx.new w 68 #[.int .u64 0])
  have HC := Lib.hid (fun j (hj : j < xs.length) => ((below_new w (.cells #[.int .u64 0] 68)).cell (p := ⟨b, o + p + j, none⟩) hbb).trans (hcell j hj))
  have HLT := Lib.hid hlt
  have HL := Lib.hid hlen
  have HBB := Lib.hid hbb
  have i0 : (0 : Int) ≤ (p : Int) := by omega
  have i1 : (p : Int) ≤ (p : Int) + (n : Int) := by omega
  have i2 : (p : Int) + (n : Int) ≤ (c : Int) := by omega
  have i3 : ¬ ((m : Int) < (p : Int)) := by omega
  have i4 : ¬ ((m : Int) - (p : Int) < (n : Int)) := by omega
  clear hb hlt hcell hlen
  go_enter Tryd.func30, Tryd.ntmps30
  go_wp2_with (go_at_call 39; refine (digits_get big n w.heap.size b (o + p) _ xs _ h8 ?_ HL.out HLT.out ?_ ?_ HC.out HBX.out).mono ?_)
  · omega
  · omega
  first
    | rintro _ w2 rfl hb2 hg2
    | rintro _ w2 ⟨rfl, hb2, hg2⟩
  have HW2 := Lib.hid (HBN.out.grown hg2 (by simp) (fun k hk => by injection hk; omega))
  have c0 := hb2.cell 0
  clear hb2 hg2
  go_wp2
  go_ret2
  exact ⟨rfl, HW2.out⟩

set_option maxHeartbeats 2000000 in
set_option maxRecDepth 100000 in
theorem oget_no (big : Bool) (n p m c : Nat) (A : Option Addr) (w : World) (h1 : 1 ≤ n) (h8 : n ≤ 8) (hm : m ≤ 140737488355328) (hp : p ≤ m) (hs : m < p + n) :
    Calls Tryd.prog 30 #[.slice A m c, .int .i64 p, .int .i64 n, .bool big] w fun e w' => e = .returned (.tuple #[.int .u64 0, .int .i64 4]) ∧ Below w.heap.size w w' := by
  have i0 : (0 : Int) ≤ (p : Int) := by omega
  have i3 : ¬ ((m : Int) < (p : Int)) := by omega
  have i4 : ((m : Int) - (p : Int) < (n : Int)) := by omega
  go_enter Tryd.func30, Tryd.ntmps30
  go_wp2
  go_ret2
  exact ⟨rfl, Below.refl _ _⟩

theorem lows_step {xs : List Nat} {n k : Nat} (big : Bool) (hx : xs.length = n) (h : k < n) (hp : pos big n (n - 1 - k) < xs.length) : lval ((lows big xs).drop (n - (k + 1))) = lval ((lows big xs).drop (n - k)) * 256 + xs[pos big n (n - 1 - k)] := by
  rw [show n - (k + 1) = n - 1 - k by omega]
  have hl : n - 1 - k < (lows big xs).length := by rw [lows_len, hx]; omega
  have e : (lows big xs)[n - 1 - k] = xs[pos big n (n - 1 - k)] := by
    have := lows_get big (xs := xs) (k := n - 1 - k) (by omega)
    rw [List.getElem?_eq_getElem hl, hx, List.getElem?_eq_getElem hp] at this
    exact Option.some.inj this
  rw [List.drop_eq_getElem_cons hl, lval, e, show n - 1 - k + 1 = n - k by omega]
  omega
theorem lows_small {xs : List Nat} {n : Nat} (big : Bool) (hx : xs.length = n) (h8 : n ≤ 8) (hlt : ∀ x ∈ xs, x < 256) (k : Nat) : lval ((lows big xs).drop (n - k)) < 18446744073709551616 := by
  have h := lval_lt ((lows big xs).drop (n - k)) (fun x hx => hlt x (lows_mem (List.mem_of_mem_drop hx)))
  have h2 : ((lows big xs).drop (n - k)).length ≤ 8 := by rw [List.length_drop, lows_len]; omega
  exact Nat.lt_of_lt_of_le h (Nat.le_trans (Nat.pow_le_pow_right (by omega) h2) (by decide))

end Go.Proofs.YtpajimkebnfneaaDoor.Ty9
