/- The reference's More. -/
import Derived.Test.YtpajimkebnfneaaDoorKca
namespace Go.Proofs.YtpajimkebnfneaaDoor.X5
set_option linter.unusedVariables false
set_option linter.unusedSimpArgs false
open Go.RowKit Wd Ty9

theorem b2n (a : Bool) : (a.toNat : Int) = if a then 1 else 0 := by cases a <;> rfl
theorem band1 (a : BitVec 32) : bits .and .u32 (a.toNat : Int) 1 = ((a.getLsbD 0).toNat : Int) := by
  have e1 : BitVec.ofInt 32 (a.toNat : Int) = a := by rw [BitVec.ofInt_natCast, BitVec.ofNat_toNat, BitVec.setWidth_eq]
  show IntKind.u32.wrap (((BitVec.ofInt 32 (a.toNat : Int) &&& BitVec.ofInt 32 1).toNat : Nat) : Int) = _
  rw [e1]
  have e3 : (a &&& BitVec.ofInt 32 1).toNat = (a.getLsbD 0).toNat := by
    rw [BitVec.toNat_and, show (BitVec.ofInt 32 1).toNat = 2 ^ 1 - 1 by decide, Nat.and_two_pow_sub_one_eq_mod, BitVec.getLsbD, Nat.testBit_zero]
    rcases Nat.mod_two_eq_zero_or_one a.toNat with h | h <;> simp [h]
  rw [e3]
  cases a.getLsbD 0 <;> rfl
theorem band1n (x : Nat) (hx : x < 256) : bits .and .u32 (x : Int) 1 = ((x.testBit 0).toNat : Int) := by
  have h := band1 (BitVec.ofNat 32 x)
  rw [BitVec.toNat_ofNat, Nat.mod_eq_of_lt (by omega), BitVec.getLsbD_ofNat] at h
  simpa using h
theorem bxor1 (a b : Bool) : bits .xor .u32 (a.toNat : Int) (b.toNat : Int) = ((a ^^ b).toNat : Int) := by cases a <;> cases b <;> rfl

/-- One bit, in letters. -/
theorem bit_facts (u : BitVec 32) (x j : Nat) (hx : x < 256) : ∃ (b0 b1 y : Nat) (h : BitVec 32), bits .and .u32 (u.toNat : Int) 1 = (b0 : Int) ∧ (x : Int) / 2 ^ j = (y : Int) ∧ bits .and .u32 (y : Int) 1 = (b1 : Int) ∧ (u.toNat : Int) / 2 = (h.toNat : Int) ∧
    ((bits .xor .u32 (b0 : Int) (b1 : Int) = 1 ∧ bits .xor .u32 (h.toNat : Int) 3988292384 = ((rBit u x j).toNat : Int)) ∨ (bits .xor .u32 (b0 : Int) (b1 : Int) = 0 ∧ h = rBit u x j)) := by
  have hy : x / 2 ^ j < 256 := Nat.lt_of_le_of_lt (Nat.div_le_self _ _) hx
  refine ⟨(u.getLsbD 0).toNat, ((x / 2 ^ j).testBit 0).toNat, x / 2 ^ j, u >>> 1, band1 u, by simp, band1n _ hy, by rw [BitVec.toNat_ushiftRight, Nat.shiftRight_eq_div_pow]; rfl, ?_⟩
  have ht : (x / 2 ^ j).testBit 0 = x.testBit j := by rw [← Nat.shiftRight_eq_div_pow, Nat.testBit_shiftRight]; rfl
  rw [bxor1, ht]
  unfold rBit
  cases u.getLsbD 0 ^^ x.testBit j
  · right; exact ⟨rfl, by simp⟩
  · left; exact ⟨rfl, bxor (u >>> 1) poly⟩

set_option maxHeartbeats 1000000 in
set_option maxRecDepth 100000 in
theorem rmore_any (r0 : BitVec 32) (A : Option Addr) (m c : Nat) (bs : List Nat) (w : World) (hm : m ≤ 140737488355328) (hb : Byt w w.heap.size A m bs) :
    Calls Tryd.prog 63 #[.int .u32 r0.toNat, .slice A m c] w fun e w' => e = .returned (.int .u32 (~~~ crcR (~~~ r0) bs).toNat) ∧ Below w.heap.size w w' := by
  have hl := hb.len
  have HB := Lib.hid hb
  clear hb
  obtain ⟨r1, n0, HR1⟩ : ∃ r1 : BitVec 32, bits .xor .u32 IntKind.u32.max (r0.toNat : Int) = (r1.toNat : Int) ∧ Hid (r1 = ~~~ r0) := ⟨_, bnot r0, Lib.hid rfl⟩
  go_enter Tryd.func63, Tryd.ntmps63
  go_wp2
  go_loopw [5, 6] (fun r i wr => ∃ (k : Nat) (v : BitVec 32), r = .int .u32 v.toNat ∧ i = .int .i64 k ∧ k ≤ m ∧ Below w.heap.size w wr ∧ Hid (v = crcR r1 (bs.take k))) (fun _ i _ => m - (intOf i).toNat)
  case atStart => exact ⟨0, r1, rfl, rfl, Nat.zero_le _, Below.refl _ _, Lib.hid (by simp [crcR])⟩
  case round =>
    obtain ⟨k, v, rfl, rfl, hk, hbe, HV⟩ := hrel
    have HBE := Lib.hid hbe
    clear hbe
    by_cases hlt : k < m
    · have hltz : (k : Int) < (m : Int) := by omega
      obtain ⟨b, o, rfl, hb1, hb2⟩ := HB.out.at_ (by omega)
      have hxl := HB.out.lt bs[k] (List.getElem_mem (show k < bs.length by omega))
      have hc0 := hb2 k (by omega)
      have HTK := Lib.hid (show crcR r1 (bs.take (k + 1)) = rBits v bs[k] 8 by
        rw [rBits_byte _ _ hxl, List.take_add_one, List.getElem?_eq_getElem (by omega), HV.out]
        unfold crcR
        rw [List.foldl_append]; rfl)
      generalize bs[k] = x at hc0 hxl HTK
      have HC0 := Lib.hid hc0
      clear hc0
      have q0 : IntKind.u32.wrap (x : Int) = (x : Int) := by simp [IntKind.wrap, IntKind.bits, IntKind.signed]; omega
      go_wp2
      generalize wr = wo at *
      go_loopw [5, 7] (fun r i wr => ∃ (j : Nat), r = .int .u32 (rBits v x j).toNat ∧ i = .int .i64 j ∧ j ≤ 8 ∧ Below w.heap.size w wr) (fun _ i _ => 8 - (intOf i).toNat)
      case atStart => exact ⟨0, rfl, rfl, Nat.zero_le _, HBE.out⟩
      case round =>
        obtain ⟨j, rfl, rfl, hj, hbe⟩ := hrel
        have HBJ := Lib.hid hbe
        clear hbe
        by_cases hj8 : j < 8
        · have hj8z : (j : Int) < 8 := by omega
          have c0 := (HBJ.out.cell (p := ⟨b, o + k, none⟩) hb1).trans HC0.out
          have HNX := Lib.hid (show rBits v x (j + 1) = rBit (rBits v x j) x j from rfl)
          generalize rBits v x j = u at HNX ⊢
          have qj : IntKind.u64.wrap (j : Int) = (j : Int) := by simp [IntKind.wrap, IntKind.bits, IntKind.signed]; omega
          obtain ⟨b0, b1, y, h, f1, f2, f3, f4, f5⟩ := bit_facts u x j hxl
          have HNX2 := HNX.out
          rw [← HNX2] at f5
          generalize hu2 : rBits v x (j + 1) = u2 at f5
          have HU2 := Lib.hid hu2
          clear hu2 HNX HNX2
          rcases f5 with ⟨f5, f6⟩ | ⟨f5, f6⟩
          · go_wp2
            go_roundw
            case rel => exact ⟨j + 1, by rw [HU2.out], by go_num, by omega, HBJ.out⟩
            case measure => simp [intOf]; omega
          · go_wp2
            go_roundw
            case rel => exact ⟨j + 1, by rw [HU2.out], by go_num, by omega, HBJ.out⟩
            case measure => simp [intOf]; omega
        · obtain rfl : j = 8 := by omega
          go_wp2
          go_roundw
          case rel => exact ⟨k + 1, _, rfl, by go_num, by omega, HBJ.out, Lib.hid HTK.out.symm⟩
          case measure => simp [intOf]; omega
    · obtain rfl : k = m := by omega
      have HF := Lib.hid (show v = crcR r1 bs by have h1 := HV.out; rwa [List.take_of_length_le (by omega)] at h1)
      obtain ⟨v1, n1, HV1⟩ : ∃ v1 : BitVec 32, bits .xor .u32 IntKind.u32.max (v.toNat : Int) = (v1.toNat : Int) ∧ Hid (v1 = ~~~ v) := ⟨_, bnot v, Lib.hid rfl⟩
      go_wp2
      go_ret
      refine ⟨?_, HBE.out⟩
      rw [← HR1.out, ← HF.out, ← HV1.out]
      rfl
end Go.Proofs.YtpajimkebnfneaaDoor.X5
