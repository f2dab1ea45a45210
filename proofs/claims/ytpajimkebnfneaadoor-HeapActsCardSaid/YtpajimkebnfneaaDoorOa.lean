/- Bytes: digits, Put, rows that grow. -/
import Derived.Test.YtpajimkebnfneaaDoorMw
import Derived.Laws.CopyOwn
import Derived.Laws.MakeOwn
import Derived.Maps.AppendAt
import Derived.OwnWalk
import Derived.Laws.OwnMore
import Derived.Deep.AppendLies
namespace Go.Proofs.YtpajimkebnfneaaDoor.Ty9
set_option linter.unusedVariables false
set_option linter.unusedSimpArgs false
open Go.RowKit Wd

/-- Digit number i of u. -/
def dig (u i : Nat) : Nat := u / 256 ^ i % 256
def pos (big : Bool) (n j : Nat) : Nat := if big then n - 1 - j else j
/-- u in n bytes. -/
def digs (n : Nat) (big : Bool) (u : Nat) : List Nat := (List.range n).map fun j => dig u (pos big n j)
/-- The bytes when k digits have been laid down. -/
def tab (n : Nat) (big : Bool) (u k : Nat) : List Nat := (List.range n).map fun j => if pos big n j < k then dig u (pos big n j) else 0
def by8 (l : List Nat) : List Value := l.map fun (n : Nat) => .int .u8 (n : Int)
theorem by8_len (l : List Nat) : (by8 l).length = l.length := by unfold by8; exact List.length_map _
theorem by8_app (a b : List Nat) : by8 (a ++ b) = by8 a ++ by8 b := by unfold by8; exact List.map_append
theorem digs_len (n : Nat) (big : Bool) (u : Nat) : (digs n big u).length = n := by simp [digs]
theorem tab_len (n : Nat) (big : Bool) (u k : Nat) : (tab n big u k).length = n := by simp [tab]
theorem pos_pos {big : Bool} {n j : Nat} (h : j < n) : pos big n (pos big n j) = j := by
  unfold pos; cases big <;> simp; omega
theorem pos_lt {big : Bool} {n j : Nat} (h : j < n) : pos big n j < n := by
  unfold pos; cases big <;> simp <;> omega
theorem tab_zero (n : Nat) (big : Bool) (u : Nat) : tab n big u 0 = List.replicate n 0 := by
  simp [tab, List.map_const']
theorem tab_full (n : Nat) (big : Bool) (u : Nat) : tab n big u n = digs n big u := by
  unfold tab digs
  apply List.map_congr_left
  intro j hj
  rw [if_pos (pos_lt (List.mem_range.mp hj))]
theorem tab_succ {n k : Nat} (big : Bool) (u : Nat) (h : k < n) : (tab n big u k).set (pos big n k) (dig u k) = tab n big u (k + 1) := by
  apply List.ext_getElem
  · rw [List.length_set, tab_len, tab_len]
  intro j h1 h2
  rw [tab_len] at h2
  rw [List.getElem_set]
  split
  · rename_i e
    subst e
    simp [tab, pos_pos h]
  · rename_i e
    have hne : pos big n j ≠ k := fun e' => e (by rw [← e', pos_pos h2])
    simp only [tab, List.getElem_map, List.getElem_range]
    by_cases hk : pos big n j < k
    · rw [if_pos hk, if_pos (by omega)]
    · rw [if_neg hk, if_neg (by omega)]
theorem dig_lt (u i : Nat) : dig u i < 256 := Nat.mod_lt _ (by omega)

/-- A slice of bytes that is read. -/
structure Byt (w : World) (B : Nat) (A : Option Addr) (n : Nat) (bs : List Nat) : Prop where
  len : bs.length = n
  lt : ∀ x ∈ bs, x < 256
  at_ : 0 < n → ∃ b o, A = some ⟨b, o, none⟩ ∧ b < B ∧ ∀ j (h : j < bs.length), w.cell? ⟨b, o + j, none⟩ = some (.int .u8 bs[j])
theorem Byt.keep {w w' : World} {B : Nat} {A : Option Addr} {n : Nat} {bs : List Nat} (h : Byt w B A n bs) (hk : ∀ p : Addr, p.block < B → w'.cell? p = w.cell? p) : Byt w' B A n bs :=
  ⟨h.len, h.lt, fun hn => by
    obtain ⟨b, o, e, hb, hc⟩ := h.at_ hn
    exact ⟨b, o, e, hb, fun j hj => (hk _ hb).trans (hc j hj)⟩⟩
theorem Byt.up {w : World} {B B' : Nat} {A : Option Addr} {n : Nat} {bs : List Nat} (h : Byt w B A n bs) (hB : B ≤ B') : Byt w B' A n bs :=
  ⟨h.len, h.lt, fun hn => by
    obtain ⟨b, o, e, hb, hc⟩ := h.at_ hn
    exact ⟨b, o, e, by omega, hc⟩⟩
theorem Byt.later {w w' : World} {B : Nat} {A : Option Addr} {n : Nat} {bs : List Nat} (h : Byt w B A n bs) (hb : Below B w w') : Byt w' B A n bs := h.keep fun _ hp => hb.cell hp
theorem Byt.drew {w : World} {B : Nat} {A : Option Addr} {n : Nat} {bs : List Nat} (h : Byt w B A n bs) : Byt w.drew B A n bs := h.keep fun _ _ => rfl
theorem Byt.of_own {w : World} {base n : Nat} {A : Option Addr} {c : Nat} {bs : List Nat} (h : w.ownsRow base 5 1 (.slice A n c) n (by8 bs)) (hl : ∀ x ∈ bs, x < 256) : Byt w w.heap.size A n bs := by
  have h1 := h.1
  rw [by8_len, Nat.mul_one] at h1
  refine ⟨h1, hl, fun hn => ?_⟩
  rcases h.2 with ⟨he, h0⟩ | ⟨g, cap, cur, hv, hb, hh, _⟩
  · omega
  · injection hv with hA
    subst hA
    refine ⟨g, 0, rfl, (h.lt g rfl).2, fun j hj => ?_⟩
    have := h.cells (g := g) rfl j (.int .u8 bs[j]) (by simp [by8, hj])
    have hadd : (⟨g, 0, none⟩ : Addr).add j = ⟨g, 0 + j, none⟩ := by unfold Addr.add; split <;> simp_all
    rwa [hadd] at this
theorem Byt.nil {w : World} {B : Nat} : Byt w B none 0 [] := ⟨rfl, fun _ h => absurd h (List.not_mem_nil), fun h => absurd h (Nat.lt_irrefl 0)⟩
theorem byte_info : (Tryd.prog.info? 5).map (fun i => (i.zero, i.size, i.bytes)) = some (some (.int .u8 0), 1, 1) := by kernel_rfl
theorem byte_size : (Tryd.prog.info? 5).map (·.size) = some 1 := by kernel_rfl

set_option maxHeartbeats 1000000 in
theorem fits_w (u n : Nat) (w : World) (h1 : 1 ≤ n) (h8 : n ≤ 8) (hu : (u : Int) ≤ 18446744073709551615) :
    Calls Tryd.prog 38 #[.int .u64 u, .int .i64 n] w fun e w' => e = .returned (.bool (decide (u < 256 ^ n))) ∧ Dr w w' := by
  have hn : n = 1 ∨ n = 2 ∨ n = 3 ∨ n = 4 ∨ n = 5 ∨ n = 6 ∨ n = 7 ∨ n = 8 := by omega
  rcases hn with rfl | rfl | rfl | rfl | rfl | rfl | rfl | rfl
  all_goals
    go_enter Tryd.func38, Tryd.ntmps38
    go_wp2
    go_ret
    refine ⟨congrArg (fun b => Ending.returned (Value.bool b)) (Bool.eq_iff_iff.mpr ?_), Dr.refl _⟩
    simp
    omega

set_option maxHeartbeats 1000000 in
theorem put1_any (g o i u gu : Nat) (cs : Array Value) (w : World) (hi : i < 8) (hu : (u : Int) ≤ 18446744073709551615) (hB : Bx w g 5 cs) (ho : o < cs.size) (hU : w.cell? ⟨gu, 0, none⟩ = some (.int .u64 u)) :
    Calls Tryd.prog 40 #[.pointer (some ⟨g, o, none⟩), .int .i64 (8 * (i : Int)), .pointer (some ⟨gu, 0, none⟩)] w fun e w' => e = .returned (.tuple #[]) ∧ w' = w.setCell ⟨g, o, none⟩ (.int .u8 (dig u i)) := by
  have c0 : w.cell? ⟨g, o, none⟩ = some cs[o] := (hB.cell o).trans (Array.getElem?_eq_getElem ho)
  have f0 := hB.frozen o
  have hn : i = 0 ∨ i = 1 ∨ i = 2 ∨ i = 3 ∨ i = 4 ∨ i = 5 ∨ i = 6 ∨ i = 7 := by omega
  rcases hn with rfl | rfl | rfl | rfl | rfl | rfl | rfl | rfl
  all_goals
    go_enter Tryd.func40, Tryd.ntmps40
    go_wp2
    go_end0
    exact ⟨rfl, congrArg (fun z => w.setCell ⟨g, o, none⟩ (.int .u8 z)) (by unfold dig; omega)⟩

theorem grown_trans {w w1 w2 : World} {r : Option Nat} (h : w.grownBy w1 r) (k : w1.grownBy w2 r) : w.grownBy w2 r :=
  ⟨k.os.trans h.os, k.tape.trans h.tape, k.output.trans h.output, Nat.le_trans h.size k.size, fun i hi hn => (k.block i (Nat.lt_of_lt_of_le hi h.size) hn).trans (h.block i hi hn)⟩
theorem grown_set {w w1 : World} {g : Nat} (h : w.grownBy w1 (some g)) (i : Nat) (u : Value) : w.grownBy (w1.setCell ⟨g, i, none⟩ u) (some g) :=
  grown_trans h ⟨rfl, rfl, rfl, by simp [World.setCell], fun k hk hn => Below.heap_setCell _ _ _ _ (fun e => hn (by rw [e]))⟩
theorem by8_set (l : List Nat) (i x : Nat) : by8 (l.set i x) = (by8 l).set i (.int .u8 (x : Int)) := by unfold by8; rw [List.map_set]

theorem put_row {n k : Nat} (big : Bool) (u : Nat) (pre : List Nat) (h : k < n) : (by8 (pre ++ tab n big u k)).toArray.setIfInBounds (pre.length + pos big n k) (.int .u8 (dig u k)) = (by8 (pre ++ tab n big u (k + 1))).toArray := by
  rw [← tab_succ big u h, List.setIfInBounds_toArray, ← by8_set, List.set_append_right _ _ (by omega), Nat.add_sub_cancel_left]

set_option maxHeartbeats 1000000 in
set_option maxRecDepth 100000 in
theorem digits_put (big : Bool) (n u gu g off cc : Nat) (pre : List Nat) (w : World) (hn : n ≤ 8) (hoff : off = pre.length) (hl : off ≤ 140737488355328) (hcc : n ≤ cc) (hu : (u : Int) ≤ 18446744073709551615) (hne : gu ≠ g)
    (hB : Bx w g 5 (by8 (pre ++ tab n big u 0)).toArray) (hU : w.cell? ⟨gu, 0, none⟩ = some (.int .u64 u)) :
    Calls Tryd.prog 39 #[.slice (some ⟨g, off, none⟩) n cc, .bool big, .func (.func 40) #[] #[.pointer (some ⟨gu, 0, none⟩)]] w fun e w' => e = .returned (.tuple #[]) ∧ Bx w' g 5 (by8 (pre ++ digs n big u)).toArray ∧ w.grownBy w' (some g) := by
  have HB0 := Lib.hid hB
  have HU := Lib.hid hU
  have hgu : gu < w.heap.size := World.block_lt_of_cell? w _ hU
  have HO := Lib.hid hoff
  clear hB hU hoff
  cases big
  · go_enter Tryd.func39, Tryd.ntmps39
    go_wp2
    go_loopw [10] (fun i wr => ∃ k : Nat, k ≤ n ∧ i = .int .i64 k ∧ Bx wr g 5 (by8 (pre ++ tab n _ u k)).toArray ∧ w.grownBy wr (some g)) (fun i _ => n - (intOf i).toNat)
    case atStart => exact ⟨0, Nat.zero_le _, rfl, HB0.out, World.grownBy.refl _ _⟩
    case round =>
      obtain ⟨k, hk, rfl, hB, hG⟩ := hrel
      have HB := Lib.hid hB
      have HG := Lib.hid hG
      clear hB hG
      by_cases hlt : k < n
      · have hU2 := (World.cell?_of_block (HG.out.block gu hgu (fun e => hne (by injection e)))).trans HU.out
        have HU2 := Lib.hid hU2
        clear hU2
        have k7 : k < 8 := by omega
        have HP := Lib.hid fun big => put_row big u pre hlt
        go_wp2_with (go_at_call 40; refine (put1_any g _ k u gu _ _ k7 hu HB.out ?_ HU2.out).mono ?_)
        · have := HO.out
          simp [by8_len, tab_len]
          omega
        rintro _ w2 ⟨rfl, rfl⟩
        have hb2 := HB.out.set_ (pre.length + pos false n k) (.int .u8 (dig u k))
        rw [HP.out] at hb2
        rw [← HO.out] at hb2
        have HB2 := Lib.hid (show Bx (wr.setCell ⟨g, off + k, none⟩ (.int .u8 (dig u k))) g 5 (by8 (pre ++ tab n false u (k + 1))).toArray from hb2)
        clear hb2
        go_wp2
        go_roundw
        case rel => exact ⟨k + 1, by omega, by go_num, HB2.out, grown_set HG.out _ _⟩
        case measure => simp [intOf]; omega
      · obtain rfl : k = n := by omega
        have hb := HB.out
        rw [tab_full] at hb
        have HB2 := Lib.hid hb
        clear hb
        go_wp2
        go_end0
        exact ⟨rfl, HB2.out, HG.out⟩
  · go_enter Tryd.func39, Tryd.ntmps39
    go_wp2
    go_loopw [10] (fun i wr => ∃ k : Nat, k ≤ n ∧ i = .int .i64 k ∧ Bx wr g 5 (by8 (pre ++ tab n _ u k)).toArray ∧ w.grownBy wr (some g)) (fun i _ => n - (intOf i).toNat)
    case atStart => exact ⟨0, Nat.zero_le _, rfl, HB0.out, World.grownBy.refl _ _⟩
    case round =>
      obtain ⟨k, hk, rfl, hB, hG⟩ := hrel
      have HB := Lib.hid hB
      have HG := Lib.hid hG
      clear hB hG
      by_cases hlt : k < n
      · have hU2 := (World.cell?_of_block (HG.out.block gu hgu (fun e => hne (by injection e)))).trans HU.out
        have HU2 := Lib.hid hU2
        clear hU2
        have k7 : k < 8 := by omega
        have HP := Lib.hid fun big => put_row big u pre hlt
        go_wp2_with (go_at_call 40; refine (put1_any g _ k u gu _ _ k7 hu HB.out ?_ HU2.out).mono ?_)
        · have := HO.out
          simp [by8_len, tab_len]
          omega
        rintro _ w2 ⟨rfl, rfl⟩
        have hb2 := HB.out.set_ (pre.length + pos true n k) (.int .u8 (dig u k))
        rw [HP.out] at hb2
        rw [← HO.out] at hb2
        have HB2 := Lib.hid (show Bx (wr.setCell ⟨g, off + (n - 1 - k), none⟩ (.int .u8 (dig u k))) g 5 (by8 (pre ++ tab n true u (k + 1))).toArray from hb2)
        clear hb2
        go_wp2
        go_roundw
        case rel => exact ⟨k + 1, by omega, by go_num, HB2.out, grown_set HG.out _ _⟩
        case measure => simp [intOf]; omega
      · obtain rfl : k = n := by omega
        have hb := HB.out
        rw [tab_full] at hb
        have HB2 := Lib.hid hb
        clear hb
        go_wp2
        go_end0
        exact ⟨rfl, HB2.out, HG.out⟩

theorem by8_one (l : List Nat) : ∀ v ∈ by8 l, v.oneCell' = true := by
  intro v hv
  unfold by8 at hv
  rw [List.mem_map] at hv
  obtain ⟨x, _, rfl⟩ := hv
  rfl
theorem mk_bytes (n : Nat) (hn : n ≤ 200000000000000) (W : World) : (Instr.makeSlice 22 (.int .i64 (n : Int)) (.int .i64 (n : Int))).run Tryd.prog W = .ok (.slice (some ⟨W.heap.size, 0, none⟩) n n) (W.alloc (.cells (by8 (List.replicate n 0)).toArray 5)) := by
  obtain ⟨i0, hi0, hz0, hz1, hz2⟩ := info_parts byte_info
  have h := run_make (P := Tryd.prog) W 22 5 i0 (.int .u8 0) Tryd.underlying22 hi0 hz0 .i64 .i64 n n (by omega) (by omega) (by rw [hz2]; omega) (by omega)
  rw [h]
  have e : madeCells (Value.int .u8 0).cells ((n : Int).toNat * i0.size) = (by8 (List.replicate n 0)).toArray := by
    rw [hz1, Int.toNat_natCast, Nat.mul_one]
    apply Array.toList_inj.mp
    show (madeCells #[Value.int .u8 0] n).toList = _
    rw [toList_madeCells_one]
    unfold by8
    rw [List.map_replicate]
    rfl
  rw [e, Int.toNat_natCast]
theorem splice_zero (n m : Nat) (bs : List Nat) (hm : bs.length = m) (u : Nat) (big : Bool) : splice (by8 (List.replicate (m + n) 0)) 0 (by8 bs) = by8 (bs ++ tab n big u 0) := by
  unfold splice
  rw [tab_zero, by8_app, List.take_zero, List.nil_append, by8_len, hm, Nat.zero_add]
  congr 1
  unfold by8
  rw [← List.map_drop, List.drop_replicate, Nat.add_sub_cancel_left]
theorem drN_size (w : World) (n : Nat) : (w.drewN n).heap.size = w.heap.size := by simp
theorem addr_add (b o j : Nat) : (⟨b, o, none⟩ : Addr).add j = ⟨b, o + j, none⟩ := by unfold Addr.add; split <;> simp_all

theorem run_copy_bytes (W : World) (g N m c ty : Nat) (A : Option Addr) (bs : List Nat) (cur : List Value) (hB : Bx W g 5 cur.toArray) (hN : cur.length = N) (hm : m ≤ N) {B : Nat} (hb : Byt W B A m bs) :
    ∃ W', (Builtin.copy_ #[22, 22] ty #[.slice (some ⟨g, 0, none⟩) N N, .slice A m c]).run Tryd.prog W = .ok (.int .i64 (m : Int)) W' ∧ Bx W' g 5 (splice cur 0 (by8 bs)).toArray ∧ W.grownBy W' (some g) := by
  have hl := hb.len
  rcases Nat.eq_zero_or_pos m with h0 | h0
  · subst h0
    obtain rfl : bs = [] := List.eq_nil_of_length_eq_zero hl
    refine ⟨W, run_copy_none (P := Tryd.prog) W 22 22 ty 5 (some ⟨g, 0, none⟩) A N N 0 c Tryd.underlying22 byte_size (by simp [Nat.min_def]), ?_, World.grownBy.refl _ _⟩
    simpa [splice, by8] using hB
  · obtain ⟨b, o, rfl, _, hc⟩ := hb.at_ h0
    have hbl : (by8 bs).length = m := by rw [by8_len, hl]
    have h := run_copy_row (P := Tryd.prog) W 22 22 ty 5 g 0 N N ⟨b, o, none⟩ m c cur.toArray 5 (by8 bs) Tryd.underlying22 byte_size hB (by rw [hbl]; exact (Nat.min_eq_left hm).symm)
      (fun j v hv => by
        have hj : j < bs.length := by have := (List.getElem?_eq_some_iff.mp hv).1; rwa [by8_len] at this
        rw [addr_add, hc j hj, ← hv]
        simp [by8, hj]) (by rw [hbl]; simp; omega) (by8_one bs)
    rw [hbl] at h
    refine ⟨_, h, ?_, ⟨rfl, rfl, rfl, by simp [World.setRow], fun k hk hn => setRow_other W g k _ (fun e => hn (by rw [e]))⟩⟩
    have h2 := setRow_heap W g cur.toArray (List.take 0 cur.toArray.toList ++ by8 bs ++ List.drop (0 + m) cur.toArray.toList).toArray 5 (0, 0) hB
    have e : (List.take 0 cur.toArray.toList ++ by8 bs ++ List.drop (0 + m) cur.toArray.toList).toArray = (splice cur 0 (by8 bs)).toArray := by simp [splice, hbl]
    rw [e] at h2
    have e2 : (List.take 0 cur.toArray.toList ++ by8 bs ++ List.drop (0 + (by8 bs).length) cur.toArray.toList).toArray = (splice cur 0 (by8 bs)).toArray := by rw [hbl]; exact e
    exact (congrArg (fun z => (W.setRow g z).heap[g]?) e).trans h2

set_option maxHeartbeats 2000000 in
set_option maxRecDepth 100000 in
theorem put_ok (big : Bool) (n u m c : Nat) (A : Option Addr) (bs : List Nat) (w : World) (h1 : 1 ≤ n) (h8 : n ≤ 8) (hu : u < 256 ^ n) (hm : m ≤ 140737488355328) (hb : Byt w w.heap.size A m bs) :
    Calls Tryd.prog 26 #[.slice A m c, .int .i64 n, .bool big, .int .u64 u] w fun e w' => ∃ V, e = .returned (.tuple #[V, .int .i64 0]) ∧ w'.ownsRow w.heap.size 5 1 V (m + n) (by8 (bs ++ digs n big u)) ∧ Below w.heap.size w w' := by
  have hu8 : u < 18446744073709551616 := Nat.lt_of_lt_of_le hu (Nat.pow_le_pow_right (by omega) h8)
  have hu64 : (u : Int) ≤ 18446744073709551615 := by omega
  have HUD := Lib.hid (decide_eq_true hu)
  have HB := Lib.hid hb
  have HBN := Lib.hid (below_new w (.cells #[.int .u64 u] 68))
  have HBX := Lib.hid (Bx.new w 68 #[.int .u64 u])
  have HMK := Lib.hid (mk_bytes (m + n) (by omega))
  clear hu hu8 hb
  go_enter Tryd.func26, Tryd.ntmps26
  go_wp2_with (go_at_call 38; refine (fits_w u n _ h1 h8 hu64).mono ?_)
  rintro _ w2 ⟨rfl, hd⟩
  rw [HUD.out]
  obtain ⟨q, hq⟩ := hd
  have hs2 : w2.heap.size = w.heap.size + 1 := by rw [hq, drN_size, size_alloc]
  have HW2 := Lib.hid (show Below w.heap.size w w2 by rw [hq]; exact below_drewN HBN.out q)
  have HX2 := Lib.hid (show Bx w2 w.heap.size 68 #[.int .u64 u] by rw [hq]; exact HBX.out.drewN q)
  have hmk := HMK.out w2
  rw [hs2, Int.natCast_add] at hmk
  have HS2 := Lib.hid hs2
  clear hq hs2 HBX HBN HMK
  have HX3 := Lib.hid (HX2.out.later ((Below.refl (w.heap.size + 1) w2).alloc (by have := HS2.out; omega) (.cells (by8 (List.replicate (m + n) 0)).toArray 5)) (by omega))
  have hnew := Bx.new w2 5 (by8 (List.replicate (m + n) 0)).toArray
  rw [HS2.out] at hnew
  have HNW := Lib.hid hnew
  have HBL := Lib.hid (HW2.out.alloc HW2.out.size (.cells (by8 (List.replicate (m + n) 0)).toArray 5))
  clear hnew
  obtain ⟨w3, hcp, hb3, hg3⟩ := run_copy_bytes _ (w.heap.size + 1) (m + n) m c 3 A bs (by8 (List.replicate (m + n) 0)) HNW.out (by rw [by8_len, List.length_replicate]) (by omega) (HB.out.later HBL.out)
  have hlen := HB.out.len
  rw [splice_zero n m bs hlen u big] at hb3
  have hs3 := hg3.size
  rw [size_alloc] at hs3
  have hU := (hg3.block w.heap.size (by rw [size_alloc]; have := HS2.out; omega) (fun e => by injection e; omega)).trans HX3.out
  have HU := Lib.hid (show Bx w3 w.heap.size 68 #[.int .u64 u] from hU)
  have HB3 := Lib.hid hb3
  have HL := Lib.hid hlen.symm
  have HW3 := Lib.hid (HBL.out.grown hg3 HBL.out.size (fun k hk => by injection hk; omega))
  clear hb3 hg3 hU hlen
  go_wp2_with (go_at_call 39; refine (digits_put big n u w.heap.size (w.heap.size + 1) m n bs _ h8 HL.out hm (Nat.le_refl _) hu64 (by omega) HB3.out ?_).mono ?_)
  · exact HU.out.cell 0
  rintro _ w4 ⟨rfl, hb4, hg4⟩
  have HB4 := Lib.hid hb4
  have HW4 := Lib.hid (HW3.out.grown hg4 HW3.out.size (fun k hk => by injection hk; omega))
  clear hb4 hg4
  go_wp2
  go_ret2
  refine ⟨_, rfl, ⟨?_, .inr ⟨w.heap.size + 1, m + n, _, rfl, by omega, HB4.out, Nat.le_refl _, by unfold maxLen; omega, ?_, ?_⟩⟩, HW4.out⟩
  · rw [by8_len, List.length_append, digs_len, ← HL.out, Nat.mul_one]
  · rw [List.size_toArray, by8_len, List.length_append, digs_len, ← HL.out, Nat.mul_one]
  · rw [List.take_of_length_le]
    rw [by8_len, List.length_append, digs_len, ← HL.out, Nat.mul_one]
    exact Nat.le_refl _

theorem append_none (W : World) (base ty n c : Nat) (V : Value) (xs : List Value) (hown : W.ownsRow base 5 1 V n xs) :
    (Builtin.append_ #[22, 22] ty #[V, .slice none 0 c]).run Tryd.prog W = .ok V W := by
  obtain ⟨i0, hi0, hz0, hz1, hz2⟩ := info_parts byte_info
  rcases hown.2 with ⟨rfl, rfl⟩ | ⟨g, cap, cur, rfl, _, _, hnc, _⟩
  · simp [Builtin.append_, run_underlying Tryd.underlying22, sizeOf, typeInfo, hi0, Builtin.lenOf, Builtin.firstCells]
  · simp [Builtin.append_, run_underlying Tryd.underlying22, sizeOf, typeInfo, hi0, Builtin.lenOf, Builtin.firstCells, hnc, storeCells]

theorem by8_get {xs : List Nat} {j : Nat} {u : Value} (h : (by8 xs)[j]? = some u) : ∃ hj : j < xs.length, u = .int .u8 ((xs[j] : Nat) : Int) := by
  have hj : j < xs.length := by have := (List.getElem?_eq_some_iff.mp h).1; rwa [by8_len] at this
  refine ⟨hj, ?_⟩
  unfold by8 at h
  rw [List.getElem?_map, List.getElem?_eq_getElem hj] at h
  exact (Option.some.inj h).symm

theorem append_bytes (W : World) (base ty n m c : Nat) (V : Value) (bs xs : List Nat) (A : Option Addr) (B : Nat) (hown : W.ownsRow base 5 1 V n (by8 bs)) (hx : Byt W B A m xs) (hl : n + m ≤ 140737488355328) (hb : base ≤ W.heap.size) :
    ∃ V' W', (Builtin.append_ #[22, 22] ty #[V, .slice A m c]).run Tryd.prog W = .ok V' W' ∧ W'.ownsRow base 5 1 V' (n + m) (by8 (bs ++ xs)) ∧ W.grownBy W' V.ownBlock ∧
      (V'.ownBlock = V.ownBlock ∨ V'.ownBlock = some W.heap.size) := by
  obtain ⟨i0, hi0, hz0, hz1, hz2⟩ := info_parts byte_info
  rcases A with _ | ad
  · have hm : m = 0 := by
      rcases Nat.eq_zero_or_pos m with h0 | h0
      · exact h0
      · obtain ⟨b, o, h, _⟩ := hx.at_ h0
        cases h
    subst hm
    obtain rfl : xs = [] := List.eq_nil_of_length_eq_zero hx.len
    exact ⟨V, W, append_none W base ty n c V _ hown, by rw [List.append_nil]; exact hown, World.grownBy.refl _ _, .inl rfl⟩
  · have hc : ∀ j u, (by8 xs)[j]? = some u → W.cell? (ad.add j) = some u := by
      intro j u hu
      obtain ⟨hj, rfl⟩ := by8_get hu
      obtain ⟨b, o, h, _, hc⟩ := hx.at_ (by have := hx.len; omega)
      obtain rfl : ad = ⟨b, o, none⟩ := Option.some.inj h
      exact (congrArg W.cell? (addr_add b o j)).trans (hc j hj)
    obtain ⟨V', W', h1, h2, h3, _, h5⟩ := run_append_own_at (P := Tryd.prog) W base 22 ty 5 i0 _ 1 1 Tryd.underlying22 hi0 hz0 hz1 hz2 rfl (by decide) V n (by8 bs) hown ad m c (by8 xs) (by rw [by8_len, hx.len, Nat.mul_one]) hc (by8_one xs) (by unfold maxLen; omega) (by omega) hb
    exact ⟨V', W', h1, by rw [by8_app]; exact h2, h3, h5⟩

/-- The law of the walk. -/
theorem wp_append_bytes {ops : Array Oper} {rest : List Oper} {o : Oper} {a : Act} {w : World} {Q : Exit → Act → World → Prop} (hgd : o.guard = none) (s x : Operand)
    (ho : o.op = .call { callee := .builtin .append, args := #[s, x], argTypes := #[22, 22] })
    (base n m c : Nat) (V : Value) (bs xs : List Nat) (A : Option Addr) (B : Nat) (hs : a.eval s = V) (hx : a.eval x = .slice A m c) (hown : w.ownsRow base 5 1 V n (by8 bs)) (hb : Byt w B A m xs) (hl : n + m ≤ 140737488355328) (hbase : base ≤ w.heap.size)
    (h : ∀ V' w', w'.ownsRow base 5 1 V' (n + m) (by8 (bs ++ xs)) → w.grownBy w' V.ownBlock → (V'.ownBlock = V.ownBlock ∨ V'.ownBlock = some w.heap.size) → wpList Tryd.prog ops Q rest (a.put o.dst V') w') :
    wpList Tryd.prog ops Q (o :: rest) a w := by
  refine wpList_plain hgd fun K hK => ?_
  obtain ⟨V', w', hr, h2, h3, h4⟩ := append_bytes w base o.type n m c V bs xs A B hown hb hl hbase
  unfold Oper.wp execOp
  simp only [ho, resolve, invoke, builtin, Sem.run_bind, Sem.run_pure, Result.andThen_ok, List.map_toArray, List.map_cons, List.map_nil, hs, hx, hr]
  exact hK _ _ (h V' w' h2 h3 h4)

set_option maxHeartbeats 2000000 in
set_option maxRecDepth 100000 in
theorem putBytes_ok (m c k d : Nat) (A X : Option Addr) (bs xs : List Nat) (w : World) (hk : k ≤ 65536) (hm : m ≤ 140737488000000) (hb : Byt w w.heap.size A m bs) (hx : Byt w w.heap.size X k xs) :
    Calls Tryd.prog 27 #[.slice A m c, .slice X k d] w fun e w' => ∃ V, e = .returned (.tuple #[V, .int .i64 0]) ∧ w'.ownsRow w.heap.size 5 1 V (m + 4 + k) (by8 (bs ++ digs 4 true k ++ xs)) ∧ Below w.heap.size w w' := by
  have HB := Lib.hid hb
  have HX := Lib.hid hx
  clear hb hx
  go_enter Tryd.func27, Tryd.ntmps27
  go_wp2_with (go_at_call 26; refine (put_ok true 4 k m c A bs w (by omega) (by omega) (by omega) (by omega) HB.out).mono ?_)
  rintro _ w2 ⟨V, rfl, hown, hb2⟩
  have HX2 := Lib.hid (HX.out.later hb2)
  have HW2 := Lib.hid hb2
  have HO := Lib.hid hown
  have hs2 := hb2.size
  obtain ⟨A2, C2, rfl⟩ := own_form hown
  clear hb2 hown
  go_wp2_with (at_builtin; refine wp_append_bytes rfl (.tmp 19) (.tmp 20) rfl w.heap.size (m + 4) k d (.slice A2 (m + 4) C2) (bs ++ digs 4 true k) xs X w.heap.size rfl rfl HO.out HX2.out (by omega) hs2 ?_; intro V3 w3 hown3 hg3 hat3)
  have HW3 := Lib.hid (HW2.out.grown hg3 hs2 (fun j hj => (HO.out.lt j hj).1))
  have HO3 := Lib.hid hown3
  clear hg3 hown3 hat3
  go_ret2
  exact ⟨V3, rfl, HO3.out, HW3.out⟩

/-- From world w with the row V to world wr with the row V', which holds bs: all else is as it was. -/
structure Rl (base : Nat) (V : Value) (w : World) (V' : Value) (bs : List Nat) (wr : World) : Prop where
  own : wr.ownsRow base 5 1 V' bs.length (by8 bs)
  lt : ∀ x ∈ bs, x < 256
  gr : w.grownBy wr V.ownBlock
  ow : V'.ownBlock = V.ownBlock ∨ ∃ k, V'.ownBlock = some k ∧ w.heap.size ≤ k
theorem Rl.trans {base : Nat} {V V1 V2 : Value} {w w1 w2 : World} {b1 b2 : List Nat} (h : Rl base V w V1 b1 w1) (k : Rl base V1 w1 V2 b2 w2) : Rl base V w V2 b2 w2 := by
  refine ⟨k.own, k.lt, ⟨k.gr.os.trans h.gr.os, k.gr.tape.trans h.gr.tape, k.gr.output.trans h.gr.output, Nat.le_trans h.gr.size k.gr.size, fun i hi hn => (k.gr.block i (Nat.lt_of_lt_of_le hi h.gr.size) ?_).trans (h.gr.block i hi hn)⟩, ?_⟩
  · rcases h.ow with e | ⟨j, e, hj⟩
    · rwa [e]
    · rw [e]; intro e2; injection e2; omega
  · rcases k.ow with e | ⟨j, e, hj⟩
    · rw [e]; exact h.ow
    · exact .inr ⟨j, e, Nat.le_trans h.gr.size hj⟩
theorem Rl.refl {base : Nat} {V : Value} {w : World} {bs : List Nat} (h : w.ownsRow base 5 1 V bs.length (by8 bs)) (hl : ∀ x ∈ bs, x < 256) : Rl base V w V bs w := ⟨h, hl, World.grownBy.refl _ _, .inl rfl⟩
theorem Rl.below {base : Nat} {V V1 : Value} {w w1 w2 : World} {b1 : List Nat} (h : Rl base V w V1 b1 w1) (hb : Below w1.heap.size w1 w2) : Rl base V w V1 b1 w2 := by
  refine h.trans ⟨h.own.kept ⟨hb.os, hb.tape, hb.output, hb.size, fun k hk _ => hb.block k hk⟩ (?_ : V1.ownBlock = none ∨ V1.ownBlock ≠ some w1.heap.size), h.lt, ⟨hb.os, hb.tape, hb.output, hb.size, fun k hk _ => hb.block k hk⟩, .inl rfl⟩
  rcases hv : V1.ownBlock with _ | k
  · exact .inl rfl
  · exact .inr (fun e => by injection e with e; exact absurd e (Nat.ne_of_lt (h.own.lt k hv).2))
/-- A new row. -/
theorem Rl.new {base : Nat} {V V1 V2 : Value} {w w1 w2 : World} {b1 b2 : List Nat} (h : Rl base V w V1 b1 w1) (hb : Below w1.heap.size w1 w2) (ho : w2.ownsRow w1.heap.size 5 1 V2 b2.length (by8 b2)) (hl : ∀ x ∈ b2, x < 256) (hbase : base ≤ w1.heap.size) (hne : 0 < b2.length) : Rl base V w V2 b2 w2 := by
  refine h.trans ⟨own_base ho hbase, hl, ⟨hb.os, hb.tape, hb.output, hb.size, fun k hk _ => hb.block k hk⟩, ?_⟩
  rcases ho.2 with ⟨_, h0⟩ | ⟨g, cap, cur, rfl, hg, _⟩
  · omega
  · exact .inr ⟨g, rfl, hg⟩
theorem Rl.bx {base : Nat} {V V1 : Value} {w w1 : World} {b1 : List Nat} (h : Rl base V w V1 b1 w1) {g : Nat} {t : TypeId} {cs : Array Value} (hb : Bx w g t cs) (hne : some g ≠ V.ownBlock) : Bx w1 g t cs := (h.gr.block g hb.lt hne).trans hb
theorem Rl.keep {base B : Nat} {V V1 : Value} {w w1 : World} {b1 : List Nat} (h : Rl base V w V1 b1 w1) (hB : B ≤ w.heap.size) (hV : ∀ k, V.ownBlock = some k → B ≤ k) : Below B w w1 :=
  (Below.refl B w).grown h.gr hB hV
/-- What a call that lays bytes down leaves. -/
def LP (base : Nat) (V : Value) (ys : List Nat) (w : World) (e : Ending) (w' : World) : Prop := ∃ V', e = .returned V' ∧ Rl base V w V' ys w'
/-- An int's bits. -/
def bits64 (x : Int) : Nat := (x % 18446744073709551616).toNat
theorem digs_lt (n : Nat) (big : Bool) (u : Nat) : ∀ x ∈ digs n big u, x < 256 := by
  intro x hx
  unfold digs at hx
  rw [List.mem_map] at hx
  obtain ⟨j, _, rfl⟩ := hx
  exact dig_lt _ _
theorem lt_app {a b : List Nat} (ha : ∀ x ∈ a, x < 256) (hb : ∀ x ∈ b, x < 256) : ∀ x ∈ a ++ b, x < 256 := by
  intro x hx
  rcases List.mem_append.mp hx with h | h
  · exact ha x h
  · exact hb x h


/-- The walk stands at a goal that is hidden; this lays it open again. -/
theorem go_on {p : Prop} (h : p) : Hid p := h

theorem Byt.lit (W : World) (xs : List Nat) (hl : ∀ x ∈ xs, x < 256) : Byt (W.alloc (.cells (by8 xs).toArray 5)) (W.heap.size + 1) (some ⟨W.heap.size, 0, none⟩) xs.length xs :=
  ⟨rfl, hl, fun _ => ⟨W.heap.size, 0, rfl, Nat.lt_succ_self _, fun j hj => by
    rw [(Bx.new W 5 (by8 xs).toArray).cell (0 + j)]
    simp [by8, hj]⟩⟩

theorem wp_app {ops : Array Oper} {rest : List Oper} {o : Oper} {a : Act} {w : World} {Q : Exit → Act → World → Prop} (hgd : o.guard = none) (s x : Operand)
    (ho : o.op = .call { callee := .builtin .append, args := #[s, x], argTypes := #[22, 22] })
    (base m c : Nat) (V : Value) (bs xs : List Nat) (A : Option Addr) (B : Nat) (hs : a.eval s = V) (hx : a.eval x = .slice A m c) (hown : w.ownsRow base 5 1 V bs.length (by8 bs)) (hlt : ∀ y ∈ bs, y < 256) (hb : Byt w B A m xs) (hl : bs.length + m ≤ 140737488355328) (hbase : base ≤ w.heap.size)
    (h : ∀ V' w', Rl base V w V' (bs ++ xs) w' → wpList Tryd.prog ops Q rest (a.put o.dst V') w') :
    wpList Tryd.prog ops Q (o :: rest) a w :=
  wp_append_bytes hgd s x ho base bs.length m c V bs xs A B hs hx hown hb hl hbase fun V' w' h1 h2 h3 => h V' w' ⟨by rw [List.length_append, hb.len]; exact h1, lt_app hlt hb.lt, h2, h3.imp id fun e => ⟨_, e, Nat.le_refl _⟩⟩

theorem Rl.set {base : Nat} {V : Value} {w wr : World} {bs : List Nat} {g n cap : Nat} (h : Rl base V w (.slice (some ⟨g, 0, none⟩) n cap) bs wr) (hn : n = bs.length) (i x : Nat) (hx : x < 256) : Rl base V w (.slice (some ⟨g, 0, none⟩) n cap) (bs.set i x) (wr.setCell ⟨g, i, none⟩ (.int .u8 x)) := by
  subst hn
  obtain ⟨h1, h2⟩ := h.own.stored i (.int .u8 (x : Int))
  refine h.trans ⟨?_, ?_, h2, .inl rfl⟩
  · rw [List.length_set, by8_set]; exact h1
  · intro y hy
    rcases List.mem_or_eq_of_mem_set hy with hy | rfl
    · exact h.lt y hy
    · exact hx
theorem Rl.ne {base : Nat} {V V1 : Value} {w w1 : World} {bs : List Nat} (h : Rl base V w V1 bs w1) {g : Nat} (hg : g < w.heap.size) (hne : some g ≠ V.ownBlock) : some g ≠ V1.ownBlock := by
  rcases h.ow with e | ⟨k, e, hk⟩
  · rwa [e]
  · rw [e]; intro e2; injection e2; omega
theorem Rl.cellAt {base : Nat} {V : Value} {w w1 : World} {bs : List Nat} {g n cap : Nat} (h : Rl base V w (.slice (some ⟨g, 0, none⟩) n cap) bs w1) (hn : n = bs.length) (j : Nat) (hj : j < bs.length) : w1.cell? ⟨g, j, none⟩ = some (.int .u8 ((bs[j] : Nat) : Int)) := by
  subst hn
  rw [h.own.cellAt j (by omega)]
  simp [by8, hj]
theorem Rl.frozenAt {base : Nat} {V : Value} {w w1 : World} {bs : List Nat} {g n cap : Nat} (h : Rl base V w (.slice (some ⟨g, 0, none⟩) n cap) bs w1) (hn : n = bs.length) (j : Nat) : w1.frozen? ⟨g, j, none⟩ = false := by
  subst hn
  exact h.own.frozenAt j
theorem Rl.form {base : Nat} {V V1 : Value} {w w1 : World} {bs : List Nat} (h : Rl base V w V1 bs w1) (hl : 0 < bs.length) : ∃ g cap, V1 = .slice (some ⟨g, 0, none⟩) bs.length cap ∧ base ≤ g ∧ g < w1.heap.size := h.own.form hl
end Go.Proofs.YtpajimkebnfneaaDoor.Ty9
