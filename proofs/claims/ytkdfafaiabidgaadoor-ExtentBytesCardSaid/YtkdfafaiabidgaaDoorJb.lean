/- Bytes read as numbers: the reference's Get. -/
import Derived.Test.YtkdfafaiabidgaaDoorJa
namespace Go.Proofs.YtkdfafaiabidgaaDoor.Ty9
set_option linter.unusedVariables false
set_option linter.unusedSimpArgs false
open Go.RowKit Wd

theorem lows_step {xs : List Nat} {n k : Nat} (big : Bool) (hx : xs.length = n) (h : k < n) (hp : pos big n (n - 1 - k) < xs.length) : lval ((lows big xs).drop (n - (k + 1))) = lval ((lows big xs).drop (n - k)) * 256 + xs[pos big n (n - 1 - k)] := by
  rw [show n - (k + 1) = n - 1 - k by omega]
  have hl : n - 1 - k < (lows big xs).length := by rw [lows_len, hx]; omega
  have e : (lows big xs)[n - 1 - k] = xs[pos big n (n - 1 - k)] := by
    have := lows_get big (xs := xs) (k := n - 1 - k) (by omega)
    rw [List.getElem?_eq_getElem hl, hx, List.getElem?_eq_getElem hp] at this
    exact Option.some.inj this
  rw [List.drop_eq_getElem_cons hl, lval, e, show n - 1 - k + 1 = n - k by omega]
  omega
theorem lows_small {xs : List Nat} {n : Nat} (big : Bool) (hx : xs.length = n) (h8 : n ≤ 8) (hlt : ∀ x ∈ xs, x < 256) (k : Nat) : lval ((lows big xs).drop (n - k)) < 18446744073709551616 := by
  have h := lval_lt ((lows big xs).drop (n - k)) (fun x hx => hlt x (lows_mem (List.mem_of_mem_drop hx)))
  have h2 : ((lows big xs).drop (n - k)).length ≤ 8 := by rw [List.length_drop, lows_len]; omega
  exact Nat.lt_of_lt_of_le h (Nat.le_trans (Nat.pow_le_pow_right (by omega) h2) (by decide))

set_option maxHeartbeats 2000000 in
set_option maxRecDepth 100000 in
theorem rget_ok (big : Bool) (n p m c : Nat) (A : Option Addr) (bs : List Nat) (w : World) (h1 : 1 ≤ n) (h8 : n ≤ 8) (hm : m ≤ 140737488355328) (hp : p + n ≤ m) (hb : Byt w w.heap.size A m bs) :
    Calls Tryd.prog 26 #[.slice A m c, .int .i64 p, .int .i64 n, .bool big] w fun e w' => e = .returned (.tuple #[.int .u64 (lval (lows big ((bs.drop p).take n))), .int .i64 0]) ∧ Below w.heap.size w w' := by
  obtain ⟨b, o, rfl, hbb, hlen, hlt, hcell⟩ := hb.part hp (by omega)
  generalize (bs.drop p).take n = xs at *
  have HC := Lib.hid hcell
  have HLT := Lib.hid hlt
  have HL := Lib.hid hlen
  have i0 : (0 : Int) ≤ (p : Int) := by omega
  have i3 : ¬ ((m : Int) < (p : Int)) := by omega
  have i4 : ¬ ((m : Int) - (p : Int) < (n : Int)) := by omega
  clear hb hlt hcell hlen
  cases big
  · go_enter Tryd.func26, Tryd.ntmps26
    go_wp2
    go_loopw [10, 11] (fun u i wr => ∃ k : Nat, k ≤ n ∧ i = .int .i64 k ∧ u = .int .u64 (lval ((lows false xs).drop (n - k))) ∧ Below w.heap.size w wr) (fun _ i _ => n - (intOf i).toNat)
    case atStart => exact ⟨0, Nat.zero_le _, rfl, by rw [List.drop_of_length_le (by rw [lows_len, HL.out]; omega)]; rfl, Below.refl _ _⟩
    case round =>
      obtain ⟨k, hk, rfl, rfl, hbe⟩ := hrel
      have HBE := Lib.hid hbe
      clear hbe
      by_cases hlt : k < n
      · have hp2 : pos false n (n - 1 - k) < xs.length := by rw [HL.out]; exact pos_lt (by omega)
        have hcl : wr.cell? ⟨b, o + (p + n - 1 - k), none⟩ = some (.int .u8 xs[pos false n (n - 1 - k)]) := by
          have h5 := (HBE.out.cell (p := ⟨b, o + p + pos false n (n - 1 - k), none⟩) hbb).trans (HC.out _ hp2)
          rw [show o + p + pos false n (n - 1 - k) = o + (p + n - 1 - k) by unfold pos; simp; omega] at h5
          exact h5
        have HV := Lib.hid (lows_step false HL.out hlt hp2)
        have hxl := HLT.out _ (List.getElem_mem hp2)
        have hs := lows_small false HL.out h8 HLT.out (k + 1)
        rw [HV.out] at hs
        generalize xs[pos false n (n - 1 - k)] = x at *
        generalize hu : lval ((lows false xs).drop (n - k)) = u at *
        clear hu
        have w1 : IntKind.u64.wrap ((u : Int) * 256) = (u : Int) * 256 := by rw [IntKind.wrap_u64]; omega
        have w2 : IntKind.u64.wrap ((u : Int) * 256 + (x : Int)) = (u : Int) * 256 + (x : Int) := by rw [IntKind.wrap_u64]; omega
        have w3 : IntKind.u64.wrap (x : Int) = (x : Int) := by rw [IntKind.wrap_u64]; omega
        have w4 : IntKind.i64.wrap ((p : Int) + (k : Int)) = (p : Int) + (k : Int) := by rw [IntKind.wrap_i64]; omega
        have w5 : IntKind.i64.wrap ((p : Int) + (n : Int)) = (p : Int) + (n : Int) := by rw [IntKind.wrap_i64]; omega
        have w6 : IntKind.i64.wrap ((p : Int) + (n : Int) - 1) = (p : Int) + (n : Int) - 1 := by rw [IntKind.wrap_i64]; omega
        have w7 : IntKind.i64.wrap ((p : Int) + (n : Int) - 1 - (k : Int)) = (p : Int) + (n : Int) - 1 - (k : Int) := by rw [IntKind.wrap_i64]; omega
        clear hs hxl
        go_wp2
        go_roundw
        case rel => exact ⟨k + 1, by omega, by go_num, by rw [HV.out]; simp, HBE.out⟩
        case measure => simp [intOf]; omega
      · obtain rfl : k = n := by omega
        rw [Nat.sub_self, List.drop_zero]
        go_wp2
        go_ret2
        exact ⟨rfl, HBE.out⟩
  · go_enter Tryd.func26, Tryd.ntmps26
    go_wp2
    go_loopw [10, 11] (fun u i wr => ∃ k : Nat, k ≤ n ∧ i = .int .i64 k ∧ u = .int .u64 (lval ((lows true xs).drop (n - k))) ∧ Below w.heap.size w wr) (fun _ i _ => n - (intOf i).toNat)
    case atStart => exact ⟨0, Nat.zero_le _, rfl, by rw [List.drop_of_length_le (by rw [lows_len, HL.out]; omega)]; rfl, Below.refl _ _⟩
    case round =>
      obtain ⟨k, hk, rfl, rfl, hbe⟩ := hrel
      have HBE := Lib.hid hbe
      clear hbe
      by_cases hlt : k < n
      · have hp2 : pos true n (n - 1 - k) < xs.length := by rw [HL.out]; exact pos_lt (by omega)
        have hcl : wr.cell? ⟨b, o + (p + k), none⟩ = some (.int .u8 xs[pos true n (n - 1 - k)]) := by
          have h5 := (HBE.out.cell (p := ⟨b, o + p + pos true n (n - 1 - k), none⟩) hbb).trans (HC.out _ hp2)
          rw [show o + p + pos true n (n - 1 - k) = o + (p + k) by unfold pos; simp; omega] at h5
          exact h5
        have HV := Lib.hid (lows_step true HL.out hlt hp2)
        have hxl := HLT.out _ (List.getElem_mem hp2)
        have hs := lows_small true HL.out h8 HLT.out (k + 1)
        rw [HV.out] at hs
        generalize xs[pos true n (n - 1 - k)] = x at *
        generalize hu : lval ((lows true xs).drop (n - k)) = u at *
        clear hu
        have w1 : IntKind.u64.wrap ((u : Int) * 256) = (u : Int) * 256 := by rw [IntKind.wrap_u64]; omega
        have w2 : IntKind.u64.wrap ((u : Int) * 256 + (x : Int)) = (u : Int) * 256 + (x : Int) := by rw [IntKind.wrap_u64]; omega
        have w3 : IntKind.u64.wrap (x : Int) = (x : Int) := by rw [IntKind.wrap_u64]; omega
        have w4 : IntKind.i64.wrap ((p : Int) + (k : Int)) = (p : Int) + (k : Int) := by rw [IntKind.wrap_i64]; omega
        have w5 : IntKind.i64.wrap ((p : Int) + (n : Int)) = (p : Int) + (n : Int) := by rw [IntKind.wrap_i64]; omega
        have w6 : IntKind.i64.wrap ((p : Int) + (n : Int) - 1) = (p : Int) + (n : Int) - 1 := by rw [IntKind.wrap_i64]; omega
        have w7 : IntKind.i64.wrap ((p : Int) + (n : Int) - 1 - (k : Int)) = (p : Int) + (n : Int) - 1 - (k : Int) := by rw [IntKind.wrap_i64]; omega
        clear hs hxl
        go_wp2
        go_roundw
        case rel => exact ⟨k + 1, by omega, by go_num, by rw [HV.out]; simp, HBE.out⟩
        case measure => simp [intOf]; omega
      · obtain rfl : k = n := by omega
        rw [Nat.sub_self, List.drop_zero]
        go_wp2
        go_ret2
        exact ⟨rfl, HBE.out⟩
set_option maxHeartbeats 2000000 in
set_option maxRecDepth 100000 in
theorem rget_no (big : Bool) (n p m c : Nat) (A : Option Addr) (w : World) (h1 : 1 ≤ n) (h8 : n ≤ 8) (hm : m ≤ 140737488355328) (hp : p ≤ m) (hs : m < p + n) :
    Calls Tryd.prog 26 #[.slice A m c, .int .i64 p, .int .i64 n, .bool big] w fun e w' => e = .returned (.tuple #[.int .u64 0, .int .i64 4]) ∧ Below w.heap.size w w' := by
  have i0 : (0 : Int) ≤ (p : Int) := by omega
  have i3 : ¬ ((m : Int) < (p : Int)) := by omega
  have i4 : ((m : Int) - (p : Int) < (n : Int)) := by omega
  go_enter Tryd.func26, Tryd.ntmps26
  go_wp2
  go_ret2
  exact ⟨rfl, Below.refl _ _⟩
end Go.Proofs.YtkdfafaiabidgaaDoor.Ty9
