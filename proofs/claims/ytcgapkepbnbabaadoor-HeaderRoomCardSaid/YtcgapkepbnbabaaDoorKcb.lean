/- check.More. -/
import Derived.Test.YtcgapkepbnbabaaDoorKca
import Derived.Test.YtcgapkepbnbabaaDoorOb
import Derived.Deep.DeepCutAuto
import Derived.Laws.Bits64
import Derived.Laws.Bits64b
namespace Go.Proofs.YtcgapkepbnbabaaDoor.X5
set_option linter.unusedVariables false
set_option linter.unusedSimpArgs false
open Go.RowKit Wd Ty9

theorem bxor (a b : BitVec 32) : bits .xor .u32 (a.toNat : Int) (b.toNat : Int) = ((a ^^^ b).toNat : Int) := by
  have h := (a ^^^ b).isLt
  have e1 : BitVec.ofInt 32 (a.toNat : Int) = a := by rw [BitVec.ofInt_natCast, BitVec.ofNat_toNat, BitVec.setWidth_eq]
  have e2 : BitVec.ofInt 32 (b.toNat : Int) = b := by rw [BitVec.ofInt_natCast, BitVec.ofNat_toNat, BitVec.setWidth_eq]
  show IntKind.u32.wrap (((BitVec.ofInt 32 (a.toNat : Int) ^^^ BitVec.ofInt 32 (b.toNat : Int)).toNat : Nat) : Int) = _
  rw [e1, e2]
  generalize a ^^^ b = c at h ⊢
  simp [IntKind.wrap, IntKind.bits, IntKind.signed]
  omega
theorem band15 (a : BitVec 32) : bits .and .u32 (a.toNat : Int) 15 = ((a.toNat % 16 : Nat) : Int) := by
  have e1 : BitVec.ofInt 32 (a.toNat : Int) = a := by rw [BitVec.ofInt_natCast, BitVec.ofNat_toNat, BitVec.setWidth_eq]
  show IntKind.u32.wrap (((BitVec.ofInt 32 (a.toNat : Int) &&& BitVec.ofInt 32 15).toNat : Nat) : Int) = _
  rw [e1]
  have e3 : (a &&& BitVec.ofInt 32 15).toNat = a.toNat % 16 := by
    rw [BitVec.toNat_and, show (BitVec.ofInt 32 15).toNat = 2 ^ 4 - 1 by decide, Nat.and_two_pow_sub_one_eq_mod]
  rw [e3]
  have := a.isLt
  simp [IntKind.wrap, IntKind.bits, IntKind.signed]
  omega
theorem bnot (a : BitVec 32) : bits .xor .u32 IntKind.u32.max (a.toNat : Int) = ((~~~ a).toNat : Int) := by
  have h := bxor (BitVec.allOnes 32) a
  rw [BitVec.allOnes_xor] at h
  exact h
theorem bshr (a : BitVec 32) : (a.toNat : Int) / 16 = ((a >>> 4).toNat : Int) := by
  rw [BitVec.toNat_ushiftRight, Nat.shiftRight_eq_div_pow]; rfl

/-- One half of a byte, in letters. -/
theorem half_facts (v : BitVec 32) : ∃ (j : Nat) (h t v2 : BitVec 32), j < 16 ∧ bits .and .u32 (v.toNat : Int) 15 = (j : Int) ∧ (v.toNat : Int) / 16 = (h.toNat : Int) ∧ cTab.getD j 0 = t.toNat ∧ bits .xor .u32 (h.toNat : Int) (t.toNat : Int) = (v2.toNat : Int) ∧ v2 = cHalf v := by
  refine ⟨v.toNat % 16, v >>> 4, BitVec.ofNat 32 (cTab.getD (v.toNat % 16) 0), _, Nat.mod_lt _ (by omega), band15 v, bshr v, ?_, bxor _ _, rfl⟩
  have h : ∀ i, i < 16 → cTab.getD i 0 < 4294967296 := by decide
  rw [BitVec.toNat_ofNat, Nat.mod_eq_of_lt (h _ (Nat.mod_lt _ (by omega)))]
/-- The table lies where the program has it. -/
def Gs (w : World) : Prop := 0 < w.heap.size ∧ ∀ i, i < 16 → w.cell? ⟨0, i, none⟩ = some (.int .u32 ((cTab.getD i 0 : Nat) : Int))
theorem Gs.later {w w' : World} {B : Nat} (h : Gs w) (hb : Below B w w') (hB : w.heap.size ≤ B) : Gs w' :=
  ⟨Nat.lt_of_lt_of_le h.1 hb.size, fun i hi => (hb.cell (p := ⟨0, i, none⟩) (Nat.lt_of_lt_of_le h.1 hB)).trans (h.2 i hi)⟩
theorem tab_lt : ∀ i, i < 16 → cTab.getD i 0 < 4294967296 := by decide

set_option maxHeartbeats 1000000 in
set_option maxRecDepth 100000 in
theorem more_any (r0 : BitVec 32) (A : Option Addr) (m c : Nat) (bs : List Nat) (w : World) (hm : m ≤ 140737488355328) (hb : Byt w w.heap.size A m bs) (hG : Gs w) :
    Calls Tryd.prog 80 #[.int .u32 r0.toNat, .slice A m c] w fun e w' => e = .returned (.int .u32 (~~~ crcR (~~~ r0) bs).toNat) ∧ Below w.heap.size w w' := by
  have hl := hb.len
  have HB := Lib.hid hb
  have HG := Lib.hid hG
  clear hb hG
  obtain ⟨r1, n0, HR1⟩ : ∃ r1 : BitVec 32, bits .xor .u32 IntKind.u32.max (r0.toNat : Int) = (r1.toNat : Int) ∧ Hid (r1 = ~~~ r0) := ⟨_, bnot r0, Lib.hid rfl⟩
  go_enter Tryd.func80, Tryd.ntmps80
  go_wp2
  go_loopw [5, 12] (fun r i wr => ∃ (k : Nat) (v : BitVec 32), r = .int .u32 v.toNat ∧ i = .int .i64 k ∧ k ≤ m ∧ Below w.heap.size w wr ∧ Hid (v = crcR r1 (bs.take k))) (fun _ i _ => m - (intOf i).toNat)
  case atStart => exact ⟨0, r1, rfl, rfl, Nat.zero_le _, Below.refl _ _, Lib.hid (by simp [crcR])⟩
  case round =>
    obtain ⟨k, v, rfl, rfl, hk, hbe, HV⟩ := hrel
    have HBE := Lib.hid hbe
    clear hbe
    by_cases hlt : k < m
    · have hltz : (k : Int) < (m : Int) := by omega
      obtain ⟨b, o, rfl, hb1, hb2⟩ := HB.out.at_ (by omega)
      have c0 := (HBE.out.cell (p := ⟨b, o + k, none⟩) hb1).trans (hb2 k (by omega))
      have hxl := HB.out.lt bs[k] (List.getElem_mem (show k < bs.length by omega))
      have HTK := Lib.hid (show crcR r1 (bs.take (k + 1)) = cByte v bs[k] by
        rw [List.take_add_one, List.getElem?_eq_getElem (by omega), HV.out]
        unfold crcR
        rw [List.foldl_append]; rfl)
      generalize bs[k] = x at c0 hxl HTK
      have q0 : IntKind.u32.wrap (x : Int) = (x : Int) := by simp [IntKind.wrap, IntKind.bits, IntKind.signed]; omega
      have qx : ((BitVec.ofNat 32 x).toNat : Int) = (x : Int) := by rw [BitVec.toNat_ofNat, Nat.mod_eq_of_lt (by omega)]
      have f1 := bxor v (BitVec.ofNat 32 x)
      rw [qx] at f1
      have hc := HTK.out
      unfold cByte at hc
      generalize v ^^^ BitVec.ofNat 32 x = v1 at f1 hc
      obtain ⟨j1, h1, t1, v2, j1l, f2, f3, f4, f5, e2⟩ := half_facts v1
      obtain ⟨j2, h2, t2, v3, j2l, f6, f7, f8, f9, e3⟩ := half_facts v2
      have g1 := (HBE.out.cell (p := ⟨0, j1, none⟩) HG.out.1).trans (HG.out.2 j1 j1l)
      have g2 := (HBE.out.cell (p := ⟨0, j2, none⟩) HG.out.1).trans (HG.out.2 j2 j2l)
      rw [f4] at g1
      rw [f8] at g2
      have HE := Lib.hid (show v3 = crcR r1 (bs.take (k + 1)) by rw [hc, e3, e2])
      have j1z : (j1 : Int) < 16 := by omega
      have j2z : (j2 : Int) < 16 := by omega
      clear hc e2 e3 f4 f8 qx HTK
      go_wp2
      go_roundw
      case rel => exact ⟨k + 1, v3, rfl, by go_num, by omega, HBE.out, HE⟩
      case measure => simp [intOf]; omega
    · obtain rfl : k = m := by omega
      have HF := Lib.hid (show v = crcR r1 bs by have h1 := HV.out; rwa [List.take_of_length_le (by omega)] at h1)
      obtain ⟨v1, n1, HV1⟩ : ∃ v1 : BitVec 32, bits .xor .u32 IntKind.u32.max (v.toNat : Int) = (v1.toNat : Int) ∧ Hid (v1 = ~~~ v) := ⟨_, bnot v, Lib.hid rfl⟩
      go_wp2
      go_ret
      refine ⟨?_, HBE.out⟩
      rw [← HR1.out, ← HF.out, ← HV1.out]
      rfl
end Go.Proofs.YtcgapkepbnbabaaDoor.X5
