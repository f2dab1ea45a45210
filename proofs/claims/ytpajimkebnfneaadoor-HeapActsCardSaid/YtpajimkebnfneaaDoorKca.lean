/- The cyclic sum, and check.More. -/
import Derived.RowKit
import Derived.Test.YtpajimkebnfneaaDoorOa
import Derived.Deep.DeepCutAuto
import Derived.Laws.Bits64
import Derived.Laws.Bits64b
namespace Go.Proofs.YtpajimkebnfneaaDoor.X5
set_option linter.unusedVariables false
set_option linter.unusedSimpArgs false

def poly : BitVec 32 := 0xedb88320#32
/-- One bit. -/
def cS (w : BitVec 32) : BitVec 32 := (w >>> 1) ^^^ (if w.getLsbD 0 then poly else 0#32)
def cTab : List Nat := [0, 498536548, 997073096, 651767980, 1994146192, 1802195444, 1303535960, 1342533948, 3988292384, 4027552580, 3604390888, 3412177804, 2607071920, 2262029012, 2685067896, 3183342108]
/-- Half a byte by the table. -/
def cHalf (r : BitVec 32) : BitVec 32 := (r >>> 4) ^^^ BitVec.ofNat 32 (cTab.getD (r.toNat % 16) 0)
theorem xlc (a b c : BitVec 32) : a ^^^ (b ^^^ c) = b ^^^ (a ^^^ c) := by rw [← BitVec.xor_assoc, BitVec.xor_comm a b, BitVec.xor_assoc]
theorem xcc (a b : BitVec 32) : a ^^^ (a ^^^ b) = b := by rw [← BitVec.xor_assoc, BitVec.xor_self, BitVec.zero_xor]
theorem cS_xor (a b : BitVec 32) : cS (a ^^^ b) = cS a ^^^ cS b := by
  unfold cS
  rw [BitVec.ushiftRight_xor_distrib, BitVec.getLsbD_xor]
  cases a.getLsbD 0 <;> cases b.getLsbD 0 <;> simp [BitVec.xor_assoc, BitVec.xor_comm, xlc, xcc]
theorem cS4_xor (a b : BitVec 32) : cS (cS (cS (cS (a ^^^ b)))) = cS (cS (cS (cS a))) ^^^ cS (cS (cS (cS b))) := by simp only [cS_xor]
theorem cS_even (w : BitVec 32) (h : w.getLsbD 0 = false) : cS w = w >>> 1 := by unfold cS; rw [h]; simp
theorem cS4_high (w : BitVec 32) (h : ∀ i, i < 4 → w.getLsbD i = false) : cS (cS (cS (cS w))) = w >>> 4 := by
  have e1 : cS w = w >>> 1 := cS_even w (h 0 (by omega))
  have e2 : cS (w >>> 1) = w >>> 1 >>> 1 := cS_even _ (by rw [BitVec.getLsbD_ushiftRight]; exact h 1 (by omega))
  have e3 : cS (w >>> 1 >>> 1) = w >>> 1 >>> 1 >>> 1 := cS_even _ (by simp only [BitVec.getLsbD_ushiftRight]; exact h 2 (by omega))
  have e4 : cS (w >>> 1 >>> 1 >>> 1) = w >>> 1 >>> 1 >>> 1 >>> 1 := cS_even _ (by simp only [BitVec.getLsbD_ushiftRight]; exact h 3 (by omega))
  rw [e1, e2, e3, e4]
  simp [← BitVec.shiftRight_add]
theorem cS4_low : ∀ n : Nat, n < 16 → cS (cS (cS (cS (BitVec.ofNat 32 n)))) = BitVec.ofNat 32 (cTab.getD n 0) := by decide
theorem split_low (r : BitVec 32) : r = (r >>> 4 <<< 4) ^^^ BitVec.ofNat 32 (r.toNat % 16) := by
  apply BitVec.eq_of_getLsbD_eq
  intro i hi
  rw [BitVec.getLsbD_xor, BitVec.getLsbD_shiftLeft, BitVec.getLsbD_ushiftRight, BitVec.getLsbD_ofNat, show (16 : Nat) = 2 ^ 4 by rfl, Nat.testBit_mod_two_pow]
  rcases Nat.lt_or_ge i 4 with h | h
  · simp [h, hi]; rfl
  · have h2 : ¬ i < 4 := by omega
    simp [h2, hi]
    congr 1; omega
theorem cHalf_eq (r : BitVec 32) : cHalf r = cS (cS (cS (cS r))) := by
  have e : cS (cS (cS (cS r))) = cS (cS (cS (cS ((r >>> 4 <<< 4) ^^^ BitVec.ofNat 32 (r.toNat % 16))))) := congrArg (fun r => cS (cS (cS (cS r)))) (split_low r)
  rw [e, cS4_xor, cS4_low _ (by omega), cS4_high]
  · unfold cHalf
    congr 1
    apply BitVec.eq_of_getLsbD_eq
    intro i hi
    simp only [BitVec.getLsbD_ushiftRight, BitVec.getLsbD_shiftLeft]
    have h1 : ¬ 4 + i < 4 := by omega
    by_cases h2 : 4 + i < 32
    · simp [h1, h2]
    · simp [h2]
      rw [BitVec.getLsbD_of_ge _ _ (by omega)]
  · intro i hi
    rw [BitVec.getLsbD_shiftLeft]
    simp [hi]
/-- A byte. -/
def cByte (v : BitVec 32) (x : Nat) : BitVec 32 := cHalf (cHalf (v ^^^ BitVec.ofNat 32 x))
/-- The reference's bit: v has the bits of the byte not yet. -/
def rBit (v : BitVec 32) (x k : Nat) : BitVec 32 := (v >>> 1) ^^^ (if (v.getLsbD 0 ^^ x.testBit k) then poly else 0#32)
def rBits (v : BitVec 32) (x : Nat) : Nat → BitVec 32
  | 0 => v
  | k + 1 => rBit (rBits v x k) x k
def cIter : Nat → BitVec 32 → BitVec 32
  | 0, w => w
  | k + 1, w => cS (cIter k w)
theorem rBits_eq (v : BitVec 32) (x k : Nat) (hx : x < 256) : rBits v x k ^^^ BitVec.ofNat 32 (x >>> k) = cIter k (v ^^^ BitVec.ofNat 32 x) := by
  induction k with
  | zero => simp [rBits, cIter]
  | succ k ih =>
    rw [cIter, ← ih, rBits, rBit, cS]
    have e1 : (rBits v x k ^^^ BitVec.ofNat 32 (x >>> k)).getLsbD 0 = (((rBits v x k).getLsbD 0) ^^ x.testBit k) := by
      rw [BitVec.getLsbD_xor, BitVec.getLsbD_ofNat]; simp
    have e2 : (rBits v x k ^^^ BitVec.ofNat 32 (x >>> k)) >>> 1 = (rBits v x k) >>> 1 ^^^ BitVec.ofNat 32 (x >>> (k + 1)) := by
      rw [BitVec.ushiftRight_xor_distrib]
      congr 1
      apply BitVec.eq_of_toNat_eq
      have h3 : x >>> k < 256 := Nat.lt_of_le_of_lt (by rw [Nat.shiftRight_eq_div_pow]; exact Nat.div_le_self _ _) hx
      have h4 : x >>> (k + 1) < 256 := Nat.lt_of_le_of_lt (by rw [Nat.shiftRight_eq_div_pow]; exact Nat.div_le_self _ _) hx
      rw [BitVec.toNat_ushiftRight, BitVec.toNat_ofNat, BitVec.toNat_ofNat, Nat.mod_eq_of_lt (by omega), Nat.mod_eq_of_lt (by omega), Nat.shiftRight_add]
    rw [e1, e2]
    cases ((rBits v x k).getLsbD 0 ^^ x.testBit k) <;> simp [BitVec.xor_comm, xlc]
theorem rBits_byte (v : BitVec 32) (x : Nat) (hx : x < 256) : rBits v x 8 = cByte v x := by
  have h := rBits_eq v x 8 hx
  have h0 : x >>> 8 = 0 := by rw [Nat.shiftRight_eq_div_pow]; exact Nat.div_eq_of_lt hx
  rw [h0] at h
  unfold cByte
  rw [cHalf_eq, cHalf_eq]
  simpa [cIter] using h
/-- The register behind bytes, and the sum. -/
def crcR (v : BitVec 32) (bs : List Nat) : BitVec 32 := bs.foldl cByte v
def crcN (bs : List Nat) : Nat := (~~~ (crcR (BitVec.allOnes 32) bs)).toNat
theorem crcN_lt (bs : List Nat) : crcN bs < 4294967296 := (~~~ (crcR (BitVec.allOnes 32) bs)).isLt
/-! Bytes that differ at one place have other sums. -/
theorem cS_inj {a b : BitVec 32} (h : cS a = cS b) : a = b := by
  have key : ∀ d : BitVec 32, cS d = 0#32 → d = 0#32 := by
    intro d hd
    unfold cS at hd
    cases h0 : d.getLsbD 0 with
    | true =>
      rw [h0] at hd
      have := congrArg (fun v => BitVec.getLsbD v 31) hd
      simp [poly] at this
    | false =>
      rw [h0] at hd
      apply BitVec.eq_of_getLsbD_eq
      intro i hi
      rcases Nat.eq_zero_or_pos i with rfl | hp
      · rw [h0]; simp
      · have := congrArg (fun v => BitVec.getLsbD v (i - 1)) hd
        simp [BitVec.getLsbD_ushiftRight, show 1 + (i - 1) = i by omega] at this
        rw [this]; simp
  have hx : cS (a ^^^ b) = 0#32 := by rw [cS_xor, h]; simp
  have := key _ hx
  have h2 : a ^^^ b ^^^ b = 0#32 ^^^ b := by rw [this]
  simpa [BitVec.xor_assoc] using h2
theorem cHalf_inj {a b : BitVec 32} (h : cHalf a = cHalf b) : a = b := by
  rw [cHalf_eq, cHalf_eq] at h
  exact cS_inj (cS_inj (cS_inj (cS_inj h)))
theorem cByte_inj {a b : BitVec 32} {x : Nat} (h : cByte a x = cByte b x) : a = b := by
  have := cHalf_inj (cHalf_inj h)
  have h2 : a ^^^ BitVec.ofNat 32 x ^^^ BitVec.ofNat 32 x = b ^^^ BitVec.ofNat 32 x ^^^ BitVec.ofNat 32 x := by rw [this]
  simpa [BitVec.xor_assoc] using h2
theorem cByte_byte {a : BitVec 32} {x y : Nat} (hx : x < 256) (hy : y < 256) (h : cByte a x = cByte a y) : x = y := by
  have := cHalf_inj (cHalf_inj h)
  have h2 : a ^^^ (a ^^^ BitVec.ofNat 32 x) = a ^^^ (a ^^^ BitVec.ofNat 32 y) := by rw [this]
  rw [← BitVec.xor_assoc, ← BitVec.xor_assoc] at h2
  have h3 : BitVec.ofNat 32 x = BitVec.ofNat 32 y := by simpa using h2
  have h4 := congrArg BitVec.toNat h3
  rw [BitVec.toNat_ofNat, BitVec.toNat_ofNat, Nat.mod_eq_of_lt (by omega), Nat.mod_eq_of_lt (by omega)] at h4
  exact h4
theorem crcR_inj (bs : List Nat) : ∀ {a b : BitVec 32}, crcR a bs = crcR b bs → a = b := by
  induction bs with
  | nil => intro a b h; exact h
  | cons x bs ih => intro a b h; exact cByte_inj (ih h)
theorem crcR_set (bs : List Nat) (k y : Nat) (hk : k < bs.length) (hx : bs[k] < 256) (hy : y < 256) (v : BitVec 32) (h : crcR v (bs.set k y) = crcR v bs) : bs[k] = y := by
  induction bs generalizing k v with
  | nil => simp at hk
  | cons x bs ih =>
    cases k with
    | zero => exact (cByte_byte hy hx (crcR_inj bs h)).symm
    | succ k => exact ih k (by simpa using hk) (by simpa using hx) (cByte v x) h
theorem crcN_set (bs : List Nat) (k y : Nat) (hk : k < bs.length) (hx : bs[k] < 256) (hy : y < 256) (h : crcN (bs.set k y) = crcN bs) : bs[k] = y := by
  unfold crcN at h
  have h2 : ~~~ (crcR (BitVec.allOnes 32) (bs.set k y)) = ~~~ (crcR (BitVec.allOnes 32) bs) := BitVec.eq_of_toNat_eq h
  refine crcR_set bs k y hk hx hy (BitVec.allOnes 32) ?_
  have h3 := congrArg (fun v => ~~~ v) h2
  simpa using h3
end Go.Proofs.YtpajimkebnfneaaDoor.X5

namespace Go.Proofs.YtpajimkebnfneaaDoor.X5
open Go.RowKit Wd Ty9

theorem bxor (a b : BitVec 32) : bits .xor .u32 (a.toNat : Int) (b.toNat : Int) = ((a ^^^ b).toNat : Int) := by
  have h := (a ^^^ b).isLt
  have e1 : BitVec.ofInt 32 (a.toNat : Int) = a := by rw [BitVec.ofInt_natCast, BitVec.ofNat_toNat, BitVec.setWidth_eq]
  have e2 : BitVec.ofInt 32 (b.toNat : Int) = b := by rw [BitVec.ofInt_natCast, BitVec.ofNat_toNat, BitVec.setWidth_eq]
  show IntKind.u32.wrap (((BitVec.ofInt 32 (a.toNat : Int) ^^^ BitVec.ofInt 32 (b.toNat : Int)).toNat : Nat) : Int) = _
  rw [e1, e2]
  generalize a ^^^ b = c at h ⊢
  simp [IntKind.wrap, IntKind.bits, IntKind.signed]
  omega
theorem band15 (a : BitVec 32) : bits .and .u32 (a.toNat : Int) 15 = ((a.toNat % 16 : Nat) : Int) := by
  have e1 : BitVec.ofInt 32 (a.toNat : Int) = a := by rw [BitVec.ofInt_natCast, BitVec.ofNat_toNat, BitVec.setWidth_eq]
  show IntKind.u32.wrap (((BitVec.ofInt 32 (a.toNat : Int) &&& BitVec.ofInt 32 15).toNat : Nat) : Int) = _
  rw [e1]
  have e3 : (a &&& BitVec.ofInt 32 15).toNat = a.toNat % 16 := by
    rw [BitVec.toNat_and, show (BitVec.ofInt 32 15).toNat = 2 ^ 4 - 1 by decide, Nat.and_two_pow_sub_one_eq_mod]
  rw [e3]
  have := a.isLt
  simp [IntKind.wrap, IntKind.bits, IntKind.signed]
  omega
theorem bnot (a : BitVec 32) : bits .xor .u32 IntKind.u32.max (a.toNat : Int) = ((~~~ a).toNat : Int) := by
  have h := bxor (BitVec.allOnes 32) a
  rw [BitVec.allOnes_xor] at h
  exact h
theorem bshr (a : BitVec 32) : (a.toNat : Int) / 16 = ((a >>> 4).toNat : Int) := by
  rw [BitVec.toNat_ushiftRight, Nat.shiftRight_eq_div_pow]; rfl

/-- One half of a byte, in letters. -/
theorem half_facts (v : BitVec 32) : ∃ (j : Nat) (h t v2 : BitVec 32), j < 16 ∧ bits .and .u32 (v.toNat : Int) 15 = (j : Int) ∧ (v.toNat : Int) / 16 = (h.toNat : Int) ∧ cTab.getD j 0 = t.toNat ∧ bits .xor .u32 (h.toNat : Int) (t.toNat : Int) = (v2.toNat : Int) ∧ v2 = cHalf v := by
  refine ⟨v.toNat % 16, v >>> 4, BitVec.ofNat 32 (cTab.getD (v.toNat % 16) 0), _, Nat.mod_lt _ (by omega), band15 v, bshr v, ?_, bxor _ _, rfl⟩
  have h : ∀ i, i < 16 → cTab.getD i 0 < 4294967296 := by decide
  rw [BitVec.toNat_ofNat, Nat.mod_eq_of_lt (h _ (Nat.mod_lt _ (by omega)))]
/-- The table lies where the program has it. -/
def Gs (w : World) : Prop := 0 < w.heap.size ∧ ∀ i, i < 16 → w.cell? ⟨0, i, none⟩ = some (.int .u32 ((cTab.getD i 0 : Nat) : Int))
theorem Gs.later {w w' : World} {B : Nat} (h : Gs w) (hb : Below B w w') (hB : w.heap.size ≤ B) : Gs w' :=
  ⟨Nat.lt_of_lt_of_le h.1 hb.size, fun i hi => (hb.cell (p := ⟨0, i, none⟩) (Nat.lt_of_lt_of_le h.1 hB)).trans (h.2 i hi)⟩
theorem tab_lt : ∀ i, i < 16 → cTab.getD i 0 < 4294967296 := by decide

set_option maxHeartbeats 1000000 in
set_option maxRecDepth 100000 in
theorem more_any (r0 : BitVec 32) (A : Option Addr) (m c : Nat) (bs : List Nat) (w : World) (hm : m ≤ 140737488355328) (hb : Byt w w.heap.size A m bs) (hG : Gs w) :
    Calls Tryd.prog 49 #[.int .u32 r0.toNat, .slice A m c] w fun e w' => e = .returned (.int .u32 (~~~ crcR (~~~ r0) bs).toNat) ∧ Below w.heap.size w w' := by
  have hl := hb.len
  have HB := Lib.hid hb
  have HG := Lib.hid hG
  clear hb hG
  obtain ⟨r1, n0, HR1⟩ : ∃ r1 : BitVec 32, bits .xor .u32 IntKind.u32.max (r0.toNat : Int) = (r1.toNat : Int) ∧ Hid (r1 = ~~~ r0) := ⟨_, bnot r0, Lib.hid rfl⟩
  go_enter Tryd.func49, Tryd.ntmps49
  go_wp2
  go_loopw [5, 12] (fun r i wr => ∃ (k : Nat) (v : BitVec 32), r = .int .u32 v.toNat ∧ i = .int .i64 k ∧ k ≤ m ∧ Below w.heap.size w wr ∧ Hid (v = crcR r1 (bs.take k))) (fun _ i _ => m - (intOf i).toNat)
  case atStart => exact ⟨0, r1, rfl, rfl, Nat.zero_le _, Below.refl _ _, Lib.hid (by simp [crcR])⟩
  case round =>
    obtain ⟨k, v, rfl, rfl, hk, hbe, HV⟩ := hrel
    have HBE := Lib.hid hbe
    clear hbe
    by_cases hlt : k < m
    · have hltz : (k : Int) < (m : Int) := by omega
      obtain ⟨b, o, rfl, hb1, hb2⟩ := HB.out.at_ (by omega)
      have c0 := (HBE.out.cell (p := ⟨b, o + k, none⟩) hb1).trans (hb2 k (by omega))
      have hxl := HB.out.lt bs[k] (List.getElem_mem (show k < bs.length by omega))
      have HTK := Lib.hid (show crcR r1 (bs.take (k + 1)) = cByte v bs[k] by
        rw [List.take_add_one, List.getElem?_eq_getElem (by omega), HV.out]
        unfold crcR
        rw [List.foldl_append]; rfl)
      generalize bs[k] = x at c0 hxl HTK
      have q0 : IntKind.u32.wrap (x : Int) = (x : Int) := by simp [IntKind.wrap, IntKind.bits, IntKind.signed]; omega
      have qx : ((BitVec.ofNat 32 x).toNat : Int) = (x : Int) := by rw [BitVec.toNat_ofNat, Nat.mod_eq_of_lt (by omega)]
      have f1 := bxor v (BitVec.ofNat 32 x)
      rw [qx] at f1
      have hc := HTK.out
      unfold cByte at hc
      generalize v ^^^ BitVec.ofNat 32 x = v1 at f1 hc
      obtain ⟨j1, h1, t1, v2, j1l, f2, f3, f4, f5, e2⟩ := half_facts v1
      obtain ⟨j2, h2, t2, v3, j2l, f6, f7, f8, f9, e3⟩ := half_facts v2
      have g1 := (HBE.out.cell (p := ⟨0, j1, none⟩) HG.out.1).trans (HG.out.2 j1 j1l)
      have g2 := (HBE.out.cell (p := ⟨0, j2, none⟩) HG.out.1).trans (HG.out.2 j2 j2l)
      rw [f4] at g1
      rw [f8] at g2
      have HE := Lib.hid (show v3 = crcR r1 (bs.take (k + 1)) by rw [hc, e3, e2])
      have j1z : (j1 : Int) < 16 := by omega
      have j2z : (j2 : Int) < 16 := by omega
      clear hc e2 e3 f4 f8 qx HTK
      go_wp2
      go_roundw
      case rel => exact ⟨k + 1, v3, rfl, by go_num, by omega, HBE.out, HE⟩
      case measure => simp [intOf]; omega
    · obtain rfl : k = m := by omega
      have HF := Lib.hid (show v = crcR r1 bs by have h1 := HV.out; rwa [List.take_of_length_le (by omega)] at h1)
      obtain ⟨v1, n1, HV1⟩ : ∃ v1 : BitVec 32, bits .xor .u32 IntKind.u32.max (v.toNat : Int) = (v1.toNat : Int) ∧ Hid (v1 = ~~~ v) := ⟨_, bnot v, Lib.hid rfl⟩
      go_wp2
      go_ret
      refine ⟨?_, HBE.out⟩
      rw [← HR1.out, ← HF.out, ← HV1.out]
      rfl
end Go.Proofs.YtpajimkebnfneaaDoor.X5
