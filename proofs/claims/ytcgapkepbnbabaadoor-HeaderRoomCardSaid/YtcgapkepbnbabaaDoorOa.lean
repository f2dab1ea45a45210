/- Bytes: numbers as bytes; octet.Put. -/
import Derived.Test.YtcgapkepbnbabaaDoorMw
import Derived.Laws.CopyOwn
import Derived.Laws.MakeOwn
import Derived.Maps.AppendAt
namespace Go.Proofs.YtcgapkepbnbabaaDoor.Ty9
set_option linter.unusedVariables false
set_option linter.unusedSimpArgs false
open Go.RowKit Wd

/-- Digit number i of u. -/
def dig (u i : Nat) : Nat := u / 256 ^ i % 256
def pos (big : Bool) (n j : Nat) : Nat := if big then n - 1 - j else j
/-- u in n bytes. -/
def digs (n : Nat) (big : Bool) (u : Nat) : List Nat := (List.range n).map fun j => dig u (pos big n j)
/-- The bytes when k digits have been laid down. -/
def tab (n : Nat) (big : Bool) (u k : Nat) : List Nat := (List.range n).map fun j => if pos big n j < k then dig u (pos big n j) else 0
def by8 (l : List Nat) : List Value := l.map fun (n : Nat) => .int .u8 (n : Int)
theorem by8_len (l : List Nat) : (by8 l).length = l.length := by unfold by8; exact List.length_map _
theorem by8_app (a b : List Nat) : by8 (a ++ b) = by8 a ++ by8 b := by unfold by8; exact List.map_append
theorem digs_len (n : Nat) (big : Bool) (u : Nat) : (digs n big u).length = n := by simp [digs]
theorem tab_len (n : Nat) (big : Bool) (u k : Nat) : (tab n big u k).length = n := by simp [tab]
theorem pos_pos {big : Bool} {n j : Nat} (h : j < n) : pos big n (pos big n j) = j := by
  unfold pos; cases big <;> simp; omega
theorem pos_lt {big : Bool} {n j : Nat} (h : j < n) : pos big n j < n := by
  unfold pos; cases big <;> simp <;> omega
theorem tab_zero (n : Nat) (big : Bool) (u : Nat) : tab n big u 0 = List.replicate n 0 := by
  simp [tab, List.map_const']
theorem tab_full (n : Nat) (big : Bool) (u : Nat) : tab n big u n = digs n big u := by
  unfold tab digs
  apply List.map_congr_left
  intro j hj
  rw [if_pos (pos_lt (List.mem_range.mp hj))]
theorem tab_succ {n k : Nat} (big : Bool) (u : Nat) (h : k < n) : (tab n big u k).set (pos big n k) (dig u k) = tab n big u (k + 1) := by
  apply List.ext_getElem
  · rw [List.length_set, tab_len, tab_len]
  intro j h1 h2
  rw [tab_len] at h2
  rw [List.getElem_set]
  split
  · rename_i e
    subst e
    simp [tab, pos_pos h]
  · rename_i e
    have hne : pos big n j ≠ k := fun e' => e (by rw [← e', pos_pos h2])
    simp only [tab, List.getElem_map, List.getElem_range]
    by_cases hk : pos big n j < k
    · rw [if_pos hk, if_pos (by omega)]
    · rw [if_neg hk, if_neg (by omega)]
theorem dig_lt (u i : Nat) : dig u i < 256 := Nat.mod_lt _ (by omega)

/-- A slice of bytes that is read. -/
structure Byt (w : World) (B : Nat) (A : Option Addr) (n : Nat) (bs : List Nat) : Prop where
  len : bs.length = n
  lt : ∀ x ∈ bs, x < 256
  at_ : 0 < n → ∃ b o, A = some ⟨b, o, none⟩ ∧ b < B ∧ ∀ j (h : j < bs.length), w.cell? ⟨b, o + j, none⟩ = some (.int .u8 bs[j])
theorem Byt.keep {w w' : World} {B : Nat} {A : Option Addr} {n : Nat} {bs : List Nat} (h : Byt w B A n bs) (hk : ∀ p : Addr, p.block < B → w'.cell? p = w.cell? p) : Byt w' B A n bs :=
  ⟨h.len, h.lt, fun hn => by
    obtain ⟨b, o, e, hb, hc⟩ := h.at_ hn
    exact ⟨b, o, e, hb, fun j hj => (hk _ hb).trans (hc j hj)⟩⟩
theorem Byt.up {w : World} {B B' : Nat} {A : Option Addr} {n : Nat} {bs : List Nat} (h : Byt w B A n bs) (hB : B ≤ B') : Byt w B' A n bs :=
  ⟨h.len, h.lt, fun hn => by
    obtain ⟨b, o, e, hb, hc⟩ := h.at_ hn
    exact ⟨b, o, e, by omega, hc⟩⟩
theorem Byt.later {w w' : World} {B : Nat} {A : Option Addr} {n : Nat} {bs : List Nat} (h : Byt w B A n bs) (hb : Below B w w') : Byt w' B A n bs := h.keep fun _ hp => hb.cell hp
theorem Byt.drew {w : World} {B : Nat} {A : Option Addr} {n : Nat} {bs : List Nat} (h : Byt w B A n bs) : Byt w.drew B A n bs := h.keep fun _ _ => rfl
theorem Byt.of_own {w : World} {base n : Nat} {A : Option Addr} {c : Nat} {bs : List Nat} (h : w.ownsRow base 5 1 (.slice A n c) n (by8 bs)) (hl : ∀ x ∈ bs, x < 256) : Byt w w.heap.size A n bs := by
  have h1 := h.1
  rw [by8_len, Nat.mul_one] at h1
  refine ⟨h1, hl, fun hn => ?_⟩
  rcases h.2 with ⟨he, h0⟩ | ⟨g, cap, cur, hv, hb, hh, _⟩
  · omega
  · injection hv with hA
    subst hA
    refine ⟨g, 0, rfl, (h.lt g rfl).2, fun j hj => ?_⟩
    have := h.cells (g := g) rfl j (.int .u8 bs[j]) (by simp [by8, hj])
    have hadd : (⟨g, 0, none⟩ : Addr).add j = ⟨g, 0 + j, none⟩ := by unfold Addr.add; split <;> simp_all
    rwa [hadd] at this
theorem Byt.nil {w : World} {B : Nat} : Byt w B none 0 [] := ⟨rfl, fun _ h => absurd h (List.not_mem_nil), fun h => absurd h (Nat.lt_irrefl 0)⟩
theorem byte_info : (Tryd.prog.info? 5).map (fun i => (i.zero, i.size, i.bytes)) = some (some (.int .u8 0), 1, 1) := by kernel_rfl
theorem byte_size : (Tryd.prog.info? 5).map (·.size) = some 1 := by kernel_rfl

set_option maxHeartbeats 1000000 in
theorem fits_w (u n : Nat) (w : World) (h1 : 1 ≤ n) (h8 : n ≤ 8) (hu : (u : Int) ≤ 18446744073709551615) :
    Calls Tryd.prog 63 #[.int .u64 u, .int .i64 n] w fun e w' => e = .returned (.bool (decide (u < 256 ^ n))) ∧ Dr w w' := by
  have hn : n = 1 ∨ n = 2 ∨ n = 3 ∨ n = 4 ∨ n = 5 ∨ n = 6 ∨ n = 7 ∨ n = 8 := by omega
  rcases hn with rfl | rfl | rfl | rfl | rfl | rfl | rfl | rfl
  all_goals
    go_enter Tryd.func63, Tryd.ntmps63
    go_wp2
    go_ret
    refine ⟨congrArg (fun b => Ending.returned (Value.bool b)) (Bool.eq_iff_iff.mpr ?_), Dr.refl _⟩
    simp
    omega

set_option maxHeartbeats 1000000 in
theorem put1_any (g o i u gu : Nat) (cs : Array Value) (w : World) (hi : i < 8) (hu : (u : Int) ≤ 18446744073709551615) (hB : Bx w g 5 cs) (ho : o < cs.size) (hU : w.cell? ⟨gu, 0, none⟩ = some (.int .u64 u)) :
    Calls Tryd.prog 65 #[.pointer (some ⟨g, o, none⟩), .int .i64 (8 * (i : Int)), .pointer (some ⟨gu, 0, none⟩)] w fun e w' => e = .returned (.tuple #[]) ∧ w' = w.setCell ⟨g, o, none⟩ (.int .u8 (dig u i)) := by
  have c0 : w.cell? ⟨g, o, none⟩ = some cs[o] := (hB.cell o).trans (Array.getElem?_eq_getElem ho)
  have f0 := hB.frozen o
  have hn : i = 0 ∨ i = 1 ∨ i = 2 ∨ i = 3 ∨ i = 4 ∨ i = 5 ∨ i = 6 ∨ i = 7 := by omega
  rcases hn with rfl | rfl | rfl | rfl | rfl | rfl | rfl | rfl
  all_goals
    go_enter Tryd.func65, Tryd.ntmps65
    go_wp2
    go_end0
    exact ⟨rfl, congrArg (fun z => w.setCell ⟨g, o, none⟩ (.int .u8 z)) (by unfold dig; omega)⟩

theorem grown_trans {w w1 w2 : World} {r : Option Nat} (h : w.grownBy w1 r) (k : w1.grownBy w2 r) : w.grownBy w2 r :=
  ⟨k.os.trans h.os, k.tape.trans h.tape, k.output.trans h.output, Nat.le_trans h.size k.size, fun i hi hn => (k.block i (Nat.lt_of_lt_of_le hi h.size) hn).trans (h.block i hi hn)⟩
theorem grown_set {w w1 : World} {g : Nat} (h : w.grownBy w1 (some g)) (i : Nat) (u : Value) : w.grownBy (w1.setCell ⟨g, i, none⟩ u) (some g) :=
  grown_trans h ⟨rfl, rfl, rfl, by simp [World.setCell], fun k hk hn => Below.heap_setCell _ _ _ _ (fun e => hn (by rw [e]))⟩
theorem by8_set (l : List Nat) (i x : Nat) : by8 (l.set i x) = (by8 l).set i (.int .u8 (x : Int)) := by unfold by8; rw [List.map_set]

theorem put_row {n k : Nat} (big : Bool) (u : Nat) (pre : List Nat) (h : k < n) : (by8 (pre ++ tab n big u k)).toArray.setIfInBounds (pre.length + pos big n k) (.int .u8 (dig u k)) = (by8 (pre ++ tab n big u (k + 1))).toArray := by
  rw [← tab_succ big u h, List.setIfInBounds_toArray, ← by8_set, List.set_append_right _ _ (by omega), Nat.add_sub_cancel_left]

set_option maxHeartbeats 1000000 in
set_option maxRecDepth 100000 in
theorem digits_put (big : Bool) (n u gu g off cc : Nat) (pre : List Nat) (w : World) (hn : n ≤ 8) (hoff : off = pre.length) (hl : off ≤ 140737488355328) (hcc : n ≤ cc) (hu : (u : Int) ≤ 18446744073709551615) (hne : gu ≠ g)
    (hB : Bx w g 5 (by8 (pre ++ tab n big u 0)).toArray) (hU : w.cell? ⟨gu, 0, none⟩ = some (.int .u64 u)) :
    Calls Tryd.prog 64 #[.slice (some ⟨g, off, none⟩) n cc, .bool big, .func (.func 65) #[] #[.pointer (some ⟨gu, 0, none⟩)]] w fun e w' => e = .returned (.tuple #[]) ∧ Bx w' g 5 (by8 (pre ++ digs n big u)).toArray ∧ w.grownBy w' (some g) := by
  have HB0 := Lib.hid hB
  have HU := Lib.hid hU
  have hgu : gu < w.heap.size := World.block_lt_of_cell? w _ hU
  have HO := Lib.hid hoff
  clear hB hU hoff
  cases big
  · go_enter Tryd.func64, Tryd.ntmps64
    go_wp2
    go_loopw [10] (fun i wr => ∃ k : Nat, k ≤ n ∧ i = .int .i64 k ∧ Bx wr g 5 (by8 (pre ++ tab n _ u k)).toArray ∧ w.grownBy wr (some g)) (fun i _ => n - (intOf i).toNat)
    case atStart => exact ⟨0, Nat.zero_le _, rfl, HB0.out, World.grownBy.refl _ _⟩
    case round =>
      obtain ⟨k, hk, rfl, hB, hG⟩ := hrel
      have HB := Lib.hid hB
      have HG := Lib.hid hG
      clear hB hG
      by_cases hlt : k < n
      · have hU2 := (World.cell?_of_block (HG.out.block gu hgu (fun e => hne (by injection e)))).trans HU.out
        have HU2 := Lib.hid hU2
        clear hU2
        have k7 : k < 8 := by omega
        have HP := Lib.hid fun big => put_row big u pre hlt
        go_wp2_with (go_at_call 65; refine (put1_any g _ k u gu _ _ k7 hu HB.out ?_ HU2.out).mono ?_)
        · have := HO.out
          simp [by8_len, tab_len]
          omega
        rintro _ w2 ⟨rfl, rfl⟩
        have hb2 := HB.out.set_ (pre.length + pos false n k) (.int .u8 (dig u k))
        rw [HP.out] at hb2
        rw [← HO.out] at hb2
        have HB2 := Lib.hid (show Bx (wr.setCell ⟨g, off + k, none⟩ (.int .u8 (dig u k))) g 5 (by8 (pre ++ tab n false u (k + 1))).toArray from hb2)
        clear hb2
        go_wp2
        go_roundw
        case rel => exact ⟨k + 1, by omega, by go_num, HB2.out, grown_set HG.out _ _⟩
        case measure => simp [intOf]; omega
      · obtain rfl : k = n := by omega
        have hb := HB.out
        rw [tab_full] at hb
        have HB2 := Lib.hid hb
        clear hb
        go_wp2
        go_end0
        exact ⟨rfl, HB2.out, HG.out⟩
  · go_enter Tryd.func64, Tryd.ntmps64
    go_wp2
    go_loopw [10] (fun i wr => ∃ k : Nat, k ≤ n ∧ i = .int .i64 k ∧ Bx wr g 5 (by8 (pre ++ tab n _ u k)).toArray ∧ w.grownBy wr (some g)) (fun i _ => n - (intOf i).toNat)
    case atStart => exact ⟨0, Nat.zero_le _, rfl, HB0.out, World.grownBy.refl _ _⟩
    case round =>
      obtain ⟨k, hk, rfl, hB, hG⟩ := hrel
      have HB := Lib.hid hB
      have HG := Lib.hid hG
      clear hB hG
      by_cases hlt : k < n
      · have hU2 := (World.cell?_of_block (HG.out.block gu hgu (fun e => hne (by injection e)))).trans HU.out
        have HU2 := Lib.hid hU2
        clear hU2
        have k7 : k < 8 := by omega
        have HP := Lib.hid fun big => put_row big u pre hlt
        go_wp2_with (go_at_call 65; refine (put1_any g _ k u gu _ _ k7 hu HB.out ?_ HU2.out).mono ?_)
        · have := HO.out
          simp [by8_len, tab_len]
          omega
        rintro _ w2 ⟨rfl, rfl⟩
        have hb2 := HB.out.set_ (pre.length + pos true n k) (.int .u8 (dig u k))
        rw [HP.out] at hb2
        rw [← HO.out] at hb2
        have HB2 := Lib.hid (show Bx (wr.setCell ⟨g, off + (n - 1 - k), none⟩ (.int .u8 (dig u k))) g 5 (by8 (pre ++ tab n true u (k + 1))).toArray from hb2)
        clear hb2
        go_wp2
        go_roundw
        case rel => exact ⟨k + 1, by omega, by go_num, HB2.out, grown_set HG.out _ _⟩
        case measure => simp [intOf]; omega
      · obtain rfl : k = n := by omega
        have hb := HB.out
        rw [tab_full] at hb
        have HB2 := Lib.hid hb
        clear hb
        go_wp2
        go_end0
        exact ⟨rfl, HB2.out, HG.out⟩
end Go.Proofs.YtcgapkepbnbabaaDoor.Ty9
