/- Load of bytes that are not sealed; the law HeapTurned, the walk. -/
import Derived.Test.YtpajimkebnfneaaDoorNh
namespace Go.Proofs.YtpajimkebnfneaaDoor.X5
set_option linter.unusedVariables false
set_option linter.unusedSimpArgs false
open Go.RowKit Go.Maps Wd Ty9

theorem load_bad (A : Option Addr) (m c : Nat) (bs : List Nat) (w : World) (hm : m ≤ 140737488000000) (hc : m ≤ c) (hb : Byt w w.heap.size A m bs) (hG : Gs w) (hu : IsUn bs 5 []) :
    Calls Tryd.prog 16 #[.slice A m c] w fun e w' => e = .returned (.tuple #[.pointer none, .int .i64 5]) ∧ Below w.heap.size w w' := by
  have HU := Lib.hid (unseal_any A m c bs w hm hc hb hG)
  have HN := Lib.hid hu
  clear hb hG hu
  go_enter Tryd.func16, Tryd.ntmps16
  go_wp2_with (go_at_call 29; refine HU.out.mono ?_; rintro _ w2 ⟨V, z, out, rfl, hi, hr, hb2⟩; obtain ⟨rfl, rfl⟩ := hi.uniq HN.out; refine Hid.out ?_)
  obtain ⟨A2, C2, rfl⟩ := own_form hr.own
  have HB := Lib.hid hb2
  clear hi hr hb2
  refine go_on ?_
  go_wp2
  go_ret2
  exact ⟨rfl, HB.out⟩

set_option maxHeartbeats 4000000 in
set_option maxRecDepth 100000 in
theorem turned_walk (w : World) (hG : Gs w) (A : Option Addr) (n C : Nat) (ls : List (List Nat)) (h : Ls w A n ls) (p : Int) (hp : -9223372036854775808 ≤ p ∧ p ≤ 9223372036854775807) (by_ : Nat) (hby : by_ < 256) :
    Calls Tryd.prog 5 #[.slice A n C, .int .i64 p, .int .u8 by_] w fun e w' => e = .returned (.bool true) ∧ Below w.heap.size w w' := by
  have HGS := Lib.hid hG
  have HL := Lib.hid h
  clear h hG
  by_cases hbig : 100 < n
  · have z1 : (100 : Int) < (n : Int) := by omega
    go_enter Tryd.func5, Tryd.ntmps5
    go_wp2_with (go_at_call 14; refine (lives6_any w HGS.out).mono ?_; rintro _ w2 ⟨rfl, hb⟩; refine Hid.out ?_)
    have HB2 := Lib.hid hb
    clear hb
    refine go_on ?_
    go_wp2
    go_ret
    exact ⟨rfl, HB2.out⟩
  have z1 : ¬ (100 : Int) < (n : Int) := by omega
  have HF := Lib.hid (filled_any w A n C ls HL.out (by omega) none 0 0 [] (Zs.nil w) (by omega))
  have hlen : (fillL ls).length ≤ 100 := Nat.le_trans (fill_len ls) (by have := HL.out.len; omega)
  have HLEN := Lib.hid hlen
  clear hbig hlen
  go_enter Tryd.func5, Tryd.ntmps5
  go_wp2_with (go_at_call 15; refine HF.out.mono ?_; rintro _ w1 ⟨hb, S, rfl, ⟨mb, D, Lv, hh⟩, hS, hb1⟩; refine Hid.out ?_)
  have HB1 := Lib.hid hb1
  have HBY := Lib.hid (bytes_any hh (by have := HLEN.out; simpa using (by omega : (fillL ls).length ≤ 60000)) (HGS.out.later hb1 (Nat.le_refl _)))
  have hsm := hh.small
  have HSM := Lib.hid hsm
  clear hh hS hb1 hsm
  refine go_on ?_
  go_wp2_with (go_at_call 13; refine HBY.out.mono ?_; rintro _ w2 ⟨V, rfl, hr, hb2⟩; refine Hid.out ?_)
  have HB2 := Lib.hid (below_more HB1.out hb2)
  obtain ⟨x, hx⟩ : ∃ x, heapB (List.foldl dropL (fillL ls) []) = x := ⟨_, rfl⟩
  have hxl : 4 ≤ x.length ∧ x.length ≤ 4 + 100 * 65541 := by
    rw [← hx]
    have h1 := flat_len ((fillL ls).take (lastN (fillL ls))) (fun y hy => HSM.out y (List.mem_of_mem_take hy))
    have h2 : ((fillL ls).take (lastN (fillL ls))).length ≤ 100 := by rw [List.length_take]; have := HLEN.out; omega
    have h3 := Nat.mul_le_mul_right 65541 h2
    simp only [List.foldl_nil, heapB, List.length_append, digs_len]
    omega
  have hxlt : ∀ y ∈ x, y < 256 := fun y hy => hr.lt y (by rw [hx]; unfold sealL; exact List.mem_append_left _ hy)
  rw [hx] at hr
  have hsl := seal_len x
  obtain ⟨o1, ho1⟩ : ∃ o1, sealL x = o1 := ⟨_, rfl⟩
  have HO1 := Lib.hid ho1
  rw [ho1] at hr hsl
  obtain ⟨L, hL⟩ : ∃ L, o1.length = L := ⟨_, rfl⟩
  have HLL := Lib.hid hL
  have HXLT := Lib.hid hxlt
  have hL8 : 8 ≤ L ∧ L ≤ 10000000 := by omega
  have HR6 := Lib.hid (hr.up (b0 := w.heap.size) HB1.out.size)
  obtain ⟨g, cap, rfl, hg1, hg2⟩ := HR6.out.own.form (by omega)
  rw [hL] at HR6 ⊢
  have hcap : L ≤ cap := by
    rcases HR6.out.own.2 with ⟨hv, h1⟩ | ⟨g', cap', cur, hv, _, _, hc, _⟩
    · simp at hv
    · injection hv with e1 e2 e3; omega
  have z8 : ¬ (L : Int) < 8 := by omega
  clear hr hb2 hsl ho1 hL hx hxl hxlt HBY
  by_cases hb0 : by_ = 0
  · subst hb0
    have HLV := Lib.hid (lives6_any w2 (HGS.out.later HB2.out (Nat.le_refl _)))
    refine go_on ?_
    go_wp2_with (go_at_call 14; refine HLV.out.mono ?_; rintro _ w7 ⟨rfl, hb⟩; refine Hid.out ?_)
    have HB7 := Lib.hid (below_more HB2.out hb)
    clear hb
    refine go_on ?_
    go_wp2
    go_ret
    exact ⟨rfl, HB7.out⟩
  · have z5 : ((by_ : Int) == 0) = false := by simp; omega
    obtain ⟨k, hkL, hk2, hk3, hk4⟩ := tmod_k p L (by omega)
    have q1 : IntKind.i64.wrap (p.tmod L + L) = p.tmod L + L := IntWalk.i64_in _ (by omega)
    have q1' : wrap64 (p.tmod L + L) = p.tmod L + L := by unfold wrap64; omega
    have hLz : (L : Int) ≠ 0 := by omega
    have hLz2 : ((L : Int) == 0) = false := beq_eq_false_iff_ne.mpr hLz
    have hkz : (k : Int) < (L : Int) := by omega
    have hko : k < o1.length := by rw [HLL.out]; exact hkL
    have hRl : Rl w.heap.size (.slice (some ⟨g, 0, none⟩) L cap) w2 (.slice (some ⟨g, 0, none⟩) L cap) o1 w2 := ⟨by have h1 := HR6.out.own; rwa [HLL.out] at h1 ⊢, HR6.out.lt, World.grownBy.refl _ _, .inl rfl⟩
    have c0 := hRl.cellAt HLL.out.symm k hko
    have f0 := hRl.frozenAt HLL.out.symm k
    have ha := HR6.out.lt o1[k] (List.getElem_mem hko)
    have HNE := Lib.hid (xor_ne (a := o1[k]) hb0)
    have hx := bxor8 o1[k] by_ ha hby
    have hc : o1[k] ^^^ by_ < 256 := Nat.xor_lt_two_pow (n := 8) (by omega) (by omega)
    have HUN := Lib.hid (show ∀ v, v < 256 → v ≠ o1[k] → IsUn (o1.set k v) 5 [] from fun v hv hvn => by
      have ho := HO1.out
      subst ho
      exact turned_bad HXLT.out hko hv hvn)
    have HUX := Lib.hid (HUN.out (o1[k] ^^^ by_) hc HNE.out)
    have hset := hRl.set HLL.out.symm k (o1[k] ^^^ by_) hc
    have HB7 := Lib.hid (HB2.out.trans (hset.keep (B := w.heap.size) HB2.out.size (fun q hq => by
      obtain rfl : g = q := Option.some.inj (show some g = some q from hq)
      exact hg1)))
    have HR7 := Lib.hid (show RowB (w2.setCell ⟨g, k, none⟩ (.int .u8 ((o1[k] ^^^ by_ : Nat) : Int))) w.heap.size (.slice (some ⟨g, 0, none⟩) L cap) (o1.set k (o1[k] ^^^ by_)) from ⟨hset.own, hset.lt⟩)
    generalize o1[k] ^^^ by_ = v at *
    have hsl : (o1.set k v).length = L := by rw [List.length_set]; exact HLL.out
    have hbt7 := Byt.of_own (by have h1 := HR7.out.own; rw [hsl] at h1; exact h1) HR7.out.lt
    have HLD7 := Lib.hid (load_bad (some ⟨g, 0, none⟩) L cap (o1.set k v) (w2.setCell ⟨g, k, none⟩ (.int .u8 v)) (by omega) hcap hbt7 (HGS.out.later HB7.out (Nat.le_refl _)) HUX.out)
    clear hRl hset hbt7 hsl hc HUN HNE
    generalize o1[k] = a at *
    clear hko ha
    refine go_on ?_
    go_wp2_with (go_at_call 16; refine HLD7.out.mono ?_; rintro _ w8 ⟨rfl, hb⟩; refine Hid.out ?_)
    have HB8 := Lib.hid (below_more HB7.out hb)
    have HLV := Lib.hid (lives6_any w8 (HGS.out.later HB8.out (Nat.le_refl _)))
    clear hb HLD7 c0 f0
    refine go_on ?_
    go_wp2_with (go_at_call 14; refine HLV.out.mono ?_; rintro _ w9 ⟨rfl, hb⟩; refine Hid.out ?_)
    have HB9 := Lib.hid (below_more HB8.out hb)
    clear hb
    refine go_on ?_
    go_wp2
    go_ret
    exact ⟨rfl, HB9.out⟩
end Go.Proofs.YtpajimkebnfneaaDoor.X5
