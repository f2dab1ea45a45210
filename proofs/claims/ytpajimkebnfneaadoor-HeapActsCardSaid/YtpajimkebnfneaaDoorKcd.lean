/- Crc, Seal, slices.Clone of bytes. -/
import Derived.Test.YtpajimkebnfneaaDoorKcc
import Derived.Test.YtpajimkebnfneaaDoorDa
import Derived.Test.YtpajimkebnfneaaDoorJa
namespace Go.Proofs.YtpajimkebnfneaaDoor.X5
set_option linter.unusedVariables false
set_option linter.unusedSimpArgs false
open Go.RowKit Wd Ty9

theorem crc_any (A : Option Addr) (m c : Nat) (bs : List Nat) (w : World) (hm : m ≤ 140737488355328) (hb : Byt w w.heap.size A m bs) (hG : Gs w) :
    Calls Tryd.prog 41 #[.slice A m c] w fun e w' => e = .returned (.int .u32 (crcN bs : Nat)) ∧ Below w.heap.size w w' := by
  have h : Calls Tryd.prog 49 #[.int .u32 0, .slice A m c] w fun e w' => e = .returned (.int .u32 (crcN bs : Nat)) ∧ Below w.heap.size w w' := by
    have h := more_any 0#32 A m c bs w hm hb hG
    rw [show (((0#32 : BitVec 32).toNat : Nat) : Int) = 0 by rfl, BitVec.not_zero] at h
    exact h
  generalize crcN bs = q at *
  have H := Lib.hid h
  clear h hb hG
  go_enter Tryd.func41, Tryd.ntmps41
  go_wp2_with (go_at_call 49; refine H.out.mono ?_; rintro _ w1 ⟨rfl, hb⟩; refine Hid.out ?_)
  have HB := Lib.hid hb
  clear hb H
  refine go_on ?_
  go_wp2
  go_ret
  exact ⟨rfl, HB.out⟩
theorem rcrc_any (A : Option Addr) (m c : Nat) (bs : List Nat) (w : World) (hm : m ≤ 140737488355328) (hb : Byt w w.heap.size A m bs) :
    Calls Tryd.prog 51 #[.slice A m c] w fun e w' => e = .returned (.int .u32 (crcN bs : Nat)) ∧ Below w.heap.size w w' := by
  have h : Calls Tryd.prog 63 #[.int .u32 0, .slice A m c] w fun e w' => e = .returned (.int .u32 (crcN bs : Nat)) ∧ Below w.heap.size w w' := by
    have h := rmore_any 0#32 A m c bs w hm hb
    rw [show (((0#32 : BitVec 32).toNat : Nat) : Int) = 0 by rfl, BitVec.not_zero] at h
    exact h
  generalize crcN bs = q at *
  have H := Lib.hid h
  clear h hb
  go_enter Tryd.func51, Tryd.ntmps51
  go_wp2_with (go_at_call 63; refine H.out.mono ?_; rintro _ w1 ⟨rfl, hb⟩; refine Hid.out ?_)
  have HB := Lib.hid hb
  clear hb H
  refine go_on ?_
  go_wp2
  go_ret
  exact ⟨rfl, HB.out⟩

/-- Bytes with their sum behind them. -/
def sealL (bs : List Nat) : List Nat := bs ++ digs 4 false (crcN bs)
theorem seal_len (bs : List Nat) : (sealL bs).length = bs.length + 4 := by unfold sealL; rw [List.length_append, digs_len]

set_option maxHeartbeats 2000000 in
set_option maxRecDepth 100000 in
theorem seal_any (A : Option Addr) (m c : Nat) (bs : List Nat) (w : World) (hm : m ≤ 140737488000000) (hb : Byt w w.heap.size A m bs) (hG : Gs w) :
    Calls Tryd.prog 28 #[.slice A m c] w fun e w' => ∃ V, e = .returned V ∧ RowB w' w.heap.size V (sealL bs) ∧ Below w.heap.size w w' := by
  have hl := hb.len
  have HL := Lib.hid hb.lt
  have HC := Lib.hid (crc_any A m c bs w (by omega) hb hG)
  have HB := Lib.hid hb
  clear hb hG
  go_enter Tryd.func28, Tryd.ntmps28
  go_wp2_with (go_at_call 41; refine HC.out.mono ?_; rintro _ w1 ⟨rfl, hb⟩; refine Hid.out ?_)
  have hu := crcN_lt bs
  have HP := Lib.hid (put_ok false 4 (crcN bs) m c A bs w1 (by omega) (by omega) (by omega) (by omega) ((HB.out.later hb).up hb.size))
  have HBE := Lib.hid hb
  have HSL := Lib.hid (show bs ++ digs 4 false (crcN bs) = sealL bs from rfl)
  have HLT := Lib.hid (show ∀ x ∈ sealL bs, x < 256 from lt_app HL.out (digs_lt _ _ _))
  generalize crcN bs = u at *
  have q0 : IntKind.u64.wrap (u : Int) = (u : Int) := by simp [IntKind.wrap, IntKind.bits, IntKind.signed]; omega
  clear hb HC
  refine go_on ?_
  go_wp2_with (go_at_call 26; refine HP.out.mono ?_; rintro _ w2 ⟨V, rfl, hown, hb⟩; refine Hid.out ?_)
  rw [HSL.out, show m + 4 = (sealL bs).length by rw [seal_len, hl]] at hown
  have HO := Lib.hid hown
  have HB2 := Lib.hid (below_more HBE.out hb)
  clear hown hb HP
  refine go_on ?_
  go_wp2
  go_ret
  exact ⟨V, rfl, ⟨own_base HO.out HBE.out.size, HLT.out⟩, HB2.out⟩

set_option maxHeartbeats 2000000 in
set_option maxRecDepth 100000 in
theorem rseal_any (A : Option Addr) (m c : Nat) (bs : List Nat) (w : World) (hm : m ≤ 140737488000000) (hb : Byt w w.heap.size A m bs) :
    Calls Tryd.prog 45 #[.slice A m c] w fun e w' => ∃ V, e = .returned V ∧ RowB w' w.heap.size V (sealL bs) ∧ Below w.heap.size w w' := by
  have hlb := hb.len
  have HBN := Lib.hid (below_new w (.cells (by8 []).toArray 5))
  have HR0 := Lib.hid (RowB.lit w [] (fun x h => absurd h (List.not_mem_nil)) (by simp) (Nat.le_refl w.heap.size))
  have HB := Lib.hid (hb.later HBN.out)
  have HBB := Lib.hid (HBN.out.size)
  have HLL := Lib.hid (show ([] : List Nat).length + m ≤ 140737488355328 by show 0 + m ≤ _; omega)
  have HCR := Lib.hid (fun (W : World) (hw : Below w.heap.size w W) => rcrc_any A m c bs W (by omega) ((hb.later hw).up hw.size))
  clear hb
  go_enter Tryd.func45, Tryd.ntmps45
  go_wp2_with (at_builtin; refine wp_rowb rfl (.tmp 3) (.tmp 4) rfl w.heap.size m c _ [] bs A w.heap.size rfl rfl HR0.out HB.out HLL.out HBB.out ?_; intro V2 w2 hrow2 hb2; refine Hid.out ?_)
  rw [List.nil_append] at hrow2
  have HR2 := Lib.hid hrow2
  have HW2 := Lib.hid (HBN.out.trans hb2)
  have HC := Lib.hid (HCR.out w2 HW2.out)
  clear hrow2 hb2
  refine go_on ?_
  go_wp2_with (go_at_call 51; refine HC.out.mono ?_; rintro _ w1 ⟨rfl, hb⟩; refine Hid.out ?_)
  have hu := crcN_lt bs
  have HR1 := Lib.hid (HR2.out.below hb)
  have HW1 := Lib.hid (below_more HW2.out hb)
  have HSL := Lib.hid (show bs ++ digs 4 false (crcN bs) = sealL bs from rfl)
  generalize crcN bs = u at *
  have HD := Lib.hid (digits_any false 4 u w1 (by omega) (by omega))
  have q0 : IntKind.u64.wrap (u : Int) = (u : Int) := by simp [IntKind.wrap, IntKind.bits, IntKind.signed]; omega
  clear hb HC
  refine go_on ?_
  go_wp2_with (go_at_call 43; refine HD.out.mono ?_; rintro _ w3 ⟨V3, rfl, hrow3, hb3⟩; refine Hid.out ?_)
  have HR3 := Lib.hid (HR1.out.below hb3)
  have HW3 := Lib.hid (below_more HW1.out hb3)
  obtain ⟨A3, c3, rfl, hby3⟩ := hrow3.byt
  have hd4 := digs_len 4 false u
  rw [hd4] at hby3
  have HB3 := Lib.hid hby3
  have HS3 := Lib.hid HW3.out.size
  have HL3 := Lib.hid (show bs.length + 4 ≤ 140737488355328 by omega)
  clear hrow3 hb3 hby3 HD
  rw [hd4]
  clear hd4
  refine go_on ?_
  go_wp2_with (at_builtin; refine wp_rowb rfl (.tmp 5) (.tmp 9) rfl w.heap.size 4 c3 V2 bs (digs 4 false u) A3 _ rfl rfl HR3.out HB3.out HL3.out HS3.out ?_; intro V4 w4 hrow4 hb4; refine Hid.out ?_)
  rw [HSL.out] at hrow4
  have HR4 := Lib.hid hrow4
  have HW4 := Lib.hid (HW3.out.trans hb4)
  clear hrow4 hb4
  refine go_on ?_
  go_wp2
  go_ret
  exact ⟨V4, rfl, HR4.out, HW4.out⟩

set_option maxHeartbeats 2000000 in
set_option maxRecDepth 100000 in
theorem cloneb_any (A : Option Addr) (m c : Nat) (bs : List Nat) (w : World) (hm : m ≤ 140737488000000) (hb : Byt w w.heap.size A m bs) :
    Calls Tryd.prog 23 #[.slice A m c] w fun e w' => ∃ V, e = .returned V ∧ RowB w' w.heap.size V bs ∧ Below w.heap.size w w' := by
  have qn : ∀ (w : World) (a : Option Addr) (n c n' c' : Nat), (binOp .eql 22 (.slice a n c) (.slice none n' c')).run Tryd.prog w = .ok (.bool a.isNone) w := fun w a n c n' c' => Lib.run_eql_slice_nil w _ _ a n c n' c' Tryd.underlying22
  rcases A with _ | ad
  · have h0 : bs = [] := by
      rcases Nat.eq_zero_or_pos m with h | h
      · exact List.eq_nil_of_length_eq_zero (by rw [hb.len, h])
      · obtain ⟨b, o, e, _⟩ := hb.at_ h; cases e
    subst h0
    clear hb
    go_enter Tryd.func23, Tryd.ntmps23
    go_wp2
    go_ret
    exact ⟨_, rfl, RowB.nil _ _, Below.refl _ _⟩
  · have HBN := Lib.hid (below_new w (.cells (by8 []).toArray 5))
    have HR0 := Lib.hid (RowB.lit w [] (fun x h => absurd h (List.not_mem_nil)) (by simp) (Nat.le_refl w.heap.size))
    have HB := Lib.hid (hb.later HBN.out)
    have HBB := Lib.hid (HBN.out.size)
    have HLL := Lib.hid (show ([] : List Nat).length + m ≤ 140737488355328 by show 0 + m ≤ _; omega)
    clear hb
    go_enter Tryd.func23, Tryd.ntmps23
    go_wp2_with (at_builtin; refine wp_rowb rfl (.tmp 5) (.tmp 6) rfl w.heap.size m c _ [] bs (some ad) w.heap.size rfl rfl HR0.out HB.out HLL.out HBB.out ?_; intro V2 w2 hrow2 hb2; refine Hid.out ?_)
    rw [List.nil_append] at hrow2
    have HR2 := Lib.hid hrow2
    have HW2 := Lib.hid (HBN.out.trans hb2)
    clear hrow2 hb2
    refine go_on ?_
    go_wp2
    go_ret
    exact ⟨V2, rfl, HR2.out, HW2.out⟩
end Go.Proofs.YtpajimkebnfneaaDoor.X5
