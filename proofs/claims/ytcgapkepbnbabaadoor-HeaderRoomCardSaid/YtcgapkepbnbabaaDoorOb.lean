/- octet.Put and octet.PutBytes. -/
import Derived.Test.YtcgapkepbnbabaaDoorOa
namespace Go.Proofs.YtcgapkepbnbabaaDoor.Ty9
set_option linter.unusedVariables false
set_option linter.unusedSimpArgs false
open Go.RowKit Wd

theorem by8_one (l : List Nat) : ∀ v ∈ by8 l, v.oneCell' = true := by
  intro v hv
  unfold by8 at hv
  rw [List.mem_map] at hv
  obtain ⟨x, _, rfl⟩ := hv
  rfl
theorem mk_bytes (n : Nat) (hn : n ≤ 200000000000000) (W : World) : (Instr.makeSlice 31 (.int .i64 (n : Int)) (.int .i64 (n : Int))).run Tryd.prog W = .ok (.slice (some ⟨W.heap.size, 0, none⟩) n n) (W.alloc (.cells (by8 (List.replicate n 0)).toArray 5)) := by
  obtain ⟨i0, hi0, hz0, hz1, hz2⟩ := info_parts byte_info
  have h := run_make (P := Tryd.prog) W 31 5 i0 (.int .u8 0) Tryd.underlying31 hi0 hz0 .i64 .i64 n n (by omega) (by omega) (by rw [hz2]; omega) (by omega)
  rw [h]
  have e : madeCells (Value.int .u8 0).cells ((n : Int).toNat * i0.size) = (by8 (List.replicate n 0)).toArray := by
    rw [hz1, Int.toNat_natCast, Nat.mul_one]
    apply Array.toList_inj.mp
    show (madeCells #[Value.int .u8 0] n).toList = _
    rw [toList_madeCells_one]
    unfold by8
    rw [List.map_replicate]
    rfl
  rw [e, Int.toNat_natCast]
theorem splice_zero (n m : Nat) (bs : List Nat) (hm : bs.length = m) (u : Nat) (big : Bool) : splice (by8 (List.replicate (m + n) 0)) 0 (by8 bs) = by8 (bs ++ tab n big u 0) := by
  unfold splice
  rw [tab_zero, by8_app, List.take_zero, List.nil_append, by8_len, hm, Nat.zero_add]
  congr 1
  unfold by8
  rw [← List.map_drop, List.drop_replicate, Nat.add_sub_cancel_left]
theorem drN_size (w : World) (n : Nat) : (w.drewN n).heap.size = w.heap.size := by simp
theorem addr_add (b o j : Nat) : (⟨b, o, none⟩ : Addr).add j = ⟨b, o + j, none⟩ := by unfold Addr.add; split <;> simp_all

theorem run_copy_bytes (W : World) (g N m c ty : Nat) (A : Option Addr) (bs : List Nat) (cur : List Value) (hB : Bx W g 5 cur.toArray) (hN : cur.length = N) (hm : m ≤ N) {B : Nat} (hb : Byt W B A m bs) :
    ∃ W', (Builtin.copy_ #[31, 31] ty #[.slice (some ⟨g, 0, none⟩) N N, .slice A m c]).run Tryd.prog W = .ok (.int .i64 (m : Int)) W' ∧ Bx W' g 5 (splice cur 0 (by8 bs)).toArray ∧ W.grownBy W' (some g) := by
  have hl := hb.len
  rcases Nat.eq_zero_or_pos m with h0 | h0
  · subst h0
    obtain rfl : bs = [] := List.eq_nil_of_length_eq_zero hl
    refine ⟨W, run_copy_none (P := Tryd.prog) W 31 31 ty 5 (some ⟨g, 0, none⟩) A N N 0 c Tryd.underlying31 byte_size (by simp [Nat.min_def]), ?_, World.grownBy.refl _ _⟩
    simpa [splice, by8] using hB
  · obtain ⟨b, o, rfl, _, hc⟩ := hb.at_ h0
    have hbl : (by8 bs).length = m := by rw [by8_len, hl]
    have h := run_copy_row (P := Tryd.prog) W 31 31 ty 5 g 0 N N ⟨b, o, none⟩ m c cur.toArray 5 (by8 bs) Tryd.underlying31 byte_size hB (by rw [hbl]; exact (Nat.min_eq_left hm).symm)
      (fun j v hv => by
        have hj : j < bs.length := by have := (List.getElem?_eq_some_iff.mp hv).1; rwa [by8_len] at this
        rw [addr_add, hc j hj, ← hv]
        simp [by8, hj]) (by rw [hbl]; simp; omega) (by8_one bs)
    rw [hbl] at h
    refine ⟨_, h, ?_, ⟨rfl, rfl, rfl, by simp [World.setRow], fun k hk hn => setRow_other W g k _ (fun e => hn (by rw [e]))⟩⟩
    have h2 := setRow_heap W g cur.toArray (List.take 0 cur.toArray.toList ++ by8 bs ++ List.drop (0 + m) cur.toArray.toList).toArray 5 (0, 0) hB
    have e : (List.take 0 cur.toArray.toList ++ by8 bs ++ List.drop (0 + m) cur.toArray.toList).toArray = (splice cur 0 (by8 bs)).toArray := by simp [splice, hbl]
    rw [e] at h2
    have e2 : (List.take 0 cur.toArray.toList ++ by8 bs ++ List.drop (0 + (by8 bs).length) cur.toArray.toList).toArray = (splice cur 0 (by8 bs)).toArray := by rw [hbl]; exact e
    exact (congrArg (fun z => (W.setRow g z).heap[g]?) e).trans h2

set_option maxHeartbeats 2000000 in
set_option maxRecDepth 100000 in
theorem put_ok (big : Bool) (n u m c : Nat) (A : Option Addr) (bs : List Nat) (w : World) (h1 : 1 ≤ n) (h8 : n ≤ 8) (hu : u < 256 ^ n) (hm : m ≤ 140737488355328) (hb : Byt w w.heap.size A m bs) :
    Calls Tryd.prog 49 #[.slice A m c, .int .i64 n, .bool big, .int .u64 u] w fun e w' => ∃ V, e = .returned (.tuple #[V, .int .i64 0]) ∧ w'.ownsRow w.heap.size 5 1 V (m + n) (by8 (bs ++ digs n big u)) ∧ Below w.heap.size w w' := by
  have hu8 : u < 18446744073709551616 := Nat.lt_of_lt_of_le hu (Nat.pow_le_pow_right (by omega) h8)
  have hu64 : (u : Int) ≤ 18446744073709551615 := by omega
  have HUD := Lib.hid (decide_eq_true hu)
  have HB := Lib.hid hb
  have HBN := Lib.hid (below_new w (.cells #[.int .u64 u] 65))
  have HBX := Lib.hid (Bx.new w 65 #[.int .u64 u])
  have HMK := Lib.hid (mk_bytes (m + n) (by omega))
  clear hu hu8 hb
  go_enter Tryd.func49, Tryd.ntmps49
  go_wp2_with (go_at_call 63; refine (fits_w u n _ h1 h8 hu64).mono ?_)
  rintro _ w2 ⟨rfl, hd⟩
  rw [HUD.out]
  obtain ⟨q, hq⟩ := hd
  have hs2 : w2.heap.size = w.heap.size + 1 := by rw [hq, drN_size, size_alloc]
  have HW2 := Lib.hid (show Below w.heap.size w w2 by rw [hq]; exact below_drewN HBN.out q)
  have HX2 := Lib.hid (show Bx w2 w.heap.size 65 #[.int .u64 u] by rw [hq]; exact HBX.out.drewN q)
  have hmk := HMK.out w2
  rw [hs2, Int.natCast_add] at hmk
  have HS2 := Lib.hid hs2
  clear hq hs2 HBX HBN HMK
  have HX3 := Lib.hid (HX2.out.later ((Below.refl (w.heap.size + 1) w2).alloc (by have := HS2.out; omega) (.cells (by8 (List.replicate (m + n) 0)).toArray 5)) (by omega))
  have hnew := Bx.new w2 5 (by8 (List.replicate (m + n) 0)).toArray
  rw [HS2.out] at hnew
  have HNW := Lib.hid hnew
  have HBL := Lib.hid (HW2.out.alloc HW2.out.size (.cells (by8 (List.replicate (m + n) 0)).toArray 5))
  clear hnew
  obtain ⟨w3, hcp, hb3, hg3⟩ := run_copy_bytes _ (w.heap.size + 1) (m + n) m c 3 A bs (by8 (List.replicate (m + n) 0)) HNW.out (by rw [by8_len, List.length_replicate]) (by omega) (HB.out.later HBL.out)
  have hlen := HB.out.len
  rw [splice_zero n m bs hlen u big] at hb3
  have hs3 := hg3.size
  rw [size_alloc] at hs3
  have hU := (hg3.block w.heap.size (by rw [size_alloc]; have := HS2.out; omega) (fun e => by injection e; omega)).trans HX3.out
  have HU := Lib.hid (show Bx w3 w.heap.size 65 #[.int .u64 u] from hU)
  have HB3 := Lib.hid hb3
  have HL := Lib.hid hlen.symm
  have HW3 := Lib.hid (HBL.out.grown hg3 HBL.out.size (fun k hk => by injection hk; omega))
  clear hb3 hg3 hU hlen
  go_wp2_with (go_at_call 64; refine (digits_put big n u w.heap.size (w.heap.size + 1) m n bs _ h8 HL.out hm (Nat.le_refl _) hu64 (by omega) HB3.out ?_).mono ?_)
  · exact HU.out.cell 0
  rintro _ w4 ⟨rfl, hb4, hg4⟩
  have HB4 := Lib.hid hb4
  have HW4 := Lib.hid (HW3.out.grown hg4 HW3.out.size (fun k hk => by injection hk; omega))
  clear hb4 hg4
  go_wp2
  go_ret2
  refine ⟨_, rfl, ⟨?_, .inr ⟨w.heap.size + 1, m + n, _, rfl, by omega, HB4.out, Nat.le_refl _, by unfold maxLen; omega, ?_, ?_⟩⟩, HW4.out⟩
  · rw [by8_len, List.length_append, digs_len, ← HL.out, Nat.mul_one]
  · rw [List.size_toArray, by8_len, List.length_append, digs_len, ← HL.out, Nat.mul_one]
  · rw [List.take_of_length_le]
    rw [by8_len, List.length_append, digs_len, ← HL.out, Nat.mul_one]
    exact Nat.le_refl _
end Go.Proofs.YtcgapkepbnbabaaDoor.Ty9
