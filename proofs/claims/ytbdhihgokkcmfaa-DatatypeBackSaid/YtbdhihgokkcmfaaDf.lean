/- The reference's laid and Bytes; the law DatatypeBytes. -/
import Derived.Test.YtbdhihgokkcmfaaDb
import Derived.Test.YtbdhihgokkcmfaaLb
import Derived.Test.YtbdhihgokkcmfaaLh
namespace Go.Proofs.Ytbdhihgokkcmfaa.Ty9
set_option linter.unusedVariables false
set_option linter.unusedSimpArgs false
open Go.RowKit Wd

theorem laid_any (d : Nat) : d ≤ 4 → LaidOk d := by
  induction d with
  | zero => intro _ t v w hz; exact absurd rfl hz
  | succ d ih =>
    intro hd t v w hz ht
    have ih := ih (by omega)
    by_cases h5 : t.c = 5
    · exact laid_comp d (by omega) ih t v w h5 hz ht
    by_cases h6 : t.c = 6
    · exact laid_arr d (by omega) ih t v w h6 hz ht
    by_cases h7 : t.c = 7
    · exact laid_enum d (by omega) t v w h7 hz ht
    obtain ⟨hn, e⟩ := sz_nums h5 h6 h7 hz
    have hi := (numB_iff t).mp hn
    obtain ⟨fA, dA, bA, nA, fC, dC, bC, nC, rfl⟩ := ht.shape
    rw [lb_num h5 h6 h7]
    have e1 : t.c = ((t.c.toNat : Nat) : Int) := by omega
    have e2 : t.w = ((t.w.toNat : Nat) : Int) := by omega
    have h := laid_num t.c.toNat t.w.toNat t.big (.slice fA t.fs.length fC) (.slice dA t.ds.length dC) (.slice bA t.bs.length bC) (.slice nA t.ns.length nC) w (by omega) (by omega) (by omega) ⟨_, _, _, rfl⟩ ⟨_, _, _, rfl⟩ ⟨_, _, _, rfl⟩ ⟨_, _, _, rfl⟩
    rw [← e1, ← e2] at h
    exact h

set_option maxHeartbeats 2000000 in
set_option maxRecDepth 100000 in
theorem rbytes_no (t : Ty) (v : Value) (w : World) (ht : TyAt w w.heap.size t v) (hz : sz 4 t = 0) :
    Calls Try.prog 22 #[v] w fun e w' => e = .returned (.tuple #[.slice none 0 0, .int .i64 15]) ∧ Below w.heap.size w w' := by
  obtain ⟨fA, dA, bA, nA, fC, dC, bC, nC, rfl⟩ := ht.shape
  have HT := Lib.hid ((ht.later (below_new w (.cells #[.int .i64 t.c, .int .i64 t.w, .bool t.big, .slice fA t.fs.length fC, .slice dA t.ds.length dC, .slice bA t.bs.length bC, .slice nA t.ns.length nC] 28))).up (below_new w (.cells #[.int .i64 t.c, .int .i64 t.w, .bool t.big, .slice fA t.fs.length fC, .slice dA t.ds.length dC, .slice bA t.bs.length bC, .slice nA t.ns.length nC] 28)).size)
  have HSV := Lib.hid (show sizeV t = .tuple #[.int .i64 0, .int .i64 15] from if_pos hz)
  clear ht hz
  go_enter Try.func22, Try.ntmps22
  go_wp2_with (go_at_call 16; refine (rsize_any t _ _ ?_).mono ?_)
  · exact HT.out
  rintro _ w2 ⟨he, hb2⟩
  rw [HSV.out] at he
  subst he
  have HW := Lib.hid (below_more (below_new _ _) hb2)
  clear hb2
  go_wp2
  go_ret2
  exact ⟨rfl, HW.out⟩

set_option maxHeartbeats 2000000 in
set_option maxRecDepth 100000 in
theorem rbytes_yes (t : Ty) (v : Value) (w : World) (ht : TyAt w w.heap.size t v) (hz : sz 4 t ≠ 0) :
    Calls Try.prog 22 #[v] w fun e w' => ∃ V, e = .returned (.tuple #[V, .int .i64 0]) ∧ RowB w' w.heap.size V (lb t) ∧ Below w.heap.size w w' := by
  obtain ⟨fA, dA, bA, nA, fC, dC, bC, nC, rfl⟩ := ht.shape
  have HT0 := Lib.hid ht
  have HT := Lib.hid ((ht.later (below_new w (.cells #[.int .i64 t.c, .int .i64 t.w, .bool t.big, .slice fA t.fs.length fC, .slice dA t.ds.length dC, .slice bA t.bs.length bC, .slice nA t.ns.length nC] 28))).up (below_new w (.cells #[.int .i64 t.c, .int .i64 t.w, .bool t.big, .slice fA t.fs.length fC, .slice dA t.ds.length dC, .slice bA t.bs.length bC, .slice nA t.ns.length nC] 28)).size)
  have HBX := Lib.hid (Bx.new w 28 #[.int .i64 t.c, .int .i64 t.w, .bool t.big, .slice fA t.fs.length fC, .slice dA t.ds.length dC, .slice bA t.bs.length bC, .slice nA t.ns.length nC])
  have HSV := Lib.hid (show sizeV t = .tuple #[.int .i64 (sz 4 t), .int .i64 0] from if_neg hz)
  have HZ := Lib.hid hz
  have hle := sz_le 4 t
  clear ht hz
  go_enter Try.func22, Try.ntmps22
  go_wp2_with (go_at_call 16; refine (rsize_any t _ _ ?_).mono ?_)
  · exact HT.out
  rintro _ w2 ⟨he, hb2⟩
  rw [HSV.out] at he
  subst he
  have HW := Lib.hid (below_more (below_new _ _) hb2)
  have HBX2 := Lib.hid (HBX.out.later hb2 (by simp))
  have c0 := HBX2.out.cell 0
  have c1 := HBX2.out.cell 1
  have c2 := HBX2.out.cell 2
  have c3 := HBX2.out.cell 3
  have c4 := HBX2.out.cell 4
  have c5 := HBX2.out.cell 5
  have c6 := HBX2.out.cell 6
  have HT2 := Lib.hid ((HT0.out.later HW.out).up HW.out.size)
  clear hb2 HBX HT
  go_wp2_with (go_at_call 38; refine (laid_any 4 (by omega) t _ w2 HZ.out HT2.out).mono ?_)
  first
    | rintro _ w3 V rfl hrow hb3
    | rintro _ w3 ⟨V, rfl, hrow, hb3⟩
  have HROW := Lib.hid hrow
  have HW3 := Lib.hid (below_more HW.out hb3)
  clear hrow hb3
  go_wp2
  go_ret2
  exact ⟨V, rfl, HROW.out.up HW.out.size, HW3.out⟩

set_option maxHeartbeats 4000000 in
set_option maxRecDepth 100000 in
theorem bytes_walk (t : Ty) (v : Value) (w : World) (ht : TyAt w w.heap.size t v) :
    Calls Try.prog 5 #[v] w fun e w' => e = .returned (.bool true) ∧ Below w.heap.size w w' := by
  obtain ⟨fA, dA, bA, nA, fC, dC, bC, nC, rfl⟩ := ht.shape
  have HT0 := Lib.hid ht
  have HT := Lib.hid ((ht.later (below_new w (.cells #[.int .i64 t.c, .int .i64 t.w, .bool t.big, .slice fA t.fs.length fC, .slice dA t.ds.length dC, .slice bA t.bs.length bC, .slice nA t.ns.length nC] 28))).up (below_new w (.cells #[.int .i64 t.c, .int .i64 t.w, .bool t.big, .slice fA t.fs.length fC, .slice dA t.ds.length dC, .slice bA t.bs.length bC, .slice nA t.ns.length nC] 28)).size)
  have HBX := Lib.hid (Bx.new w 28 #[.int .i64 t.c, .int .i64 t.w, .bool t.big, .slice fA t.fs.length fC, .slice dA t.ds.length dC, .slice bA t.bs.length bC, .slice nA t.ns.length nC])
  clear ht
  by_cases hbig : t.left 2000 ≤ 0
  · have HBG := Lib.hid (decide_eq_true hbig)
    clear hbig
    go_enter Try.func5, Try.ntmps5
    go_wp2_with (go_at_call 12; refine (big_any t _ _ ?_).mono ?_)
    · exact HT.out
    rintro _ w2 ⟨he, hb2⟩
    rw [HBG.out] at he
    subst he
    have HW := Lib.hid (below_more (below_new _ _) hb2)
    clear hb2
    go_wp2_with (go_at_call 13; refine (lives_any _).mono ?_)
    rintro _ w3 ⟨rfl, hb3⟩
    have HW3 := Lib.hid (below_more HW.out hb3)
    clear hb3
    go_wp2
    go_ret
    exact ⟨rfl, HW3.out⟩
  have HBG := Lib.hid (decide_eq_false hbig)
  clear hbig
  by_cases hz : sz 4 t = 0
  · have HZ := Lib.hid hz
    clear hz
    go_enter Try.func5, Try.ntmps5
    go_wp2_with (go_at_call 12; refine (big_any t _ _ ?_).mono ?_)
    · exact HT.out
    rintro _ w2 ⟨he, hb2⟩
    rw [HBG.out] at he
    subst he
    have HW := Lib.hid (below_more (below_new _ _) hb2)
    have hbx := HBX.out.later hb2 (by simp)
    have HBX2 := Lib.hid hbx
    have c0 := hbx.cell 0
    have c1 := hbx.cell 1
    have c2 := hbx.cell 2
    have c3 := hbx.cell 3
    have c4 := hbx.cell 4
    have c5 := hbx.cell 5
    have c6 := hbx.cell 6
    clear hb2 hbx
    go_wp2_with (go_at_call 21; refine (bytes_no t _ w2 ((HT0.out.later HW.out).up HW.out.size) HZ.out).mono ?_)
    rintro _ w3 ⟨rfl, hb3⟩
    have HW3 := Lib.hid (below_more HW.out hb3)
    have hbx := HBX2.out.later hb3 HBX2.out.lt
    clear c0 c1 c2 c3 c4 c5 c6
    have c0 := hbx.cell 0
    have c1 := hbx.cell 1
    have c2 := hbx.cell 2
    have c3 := hbx.cell 3
    have c4 := hbx.cell 4
    have c5 := hbx.cell 5
    have c6 := hbx.cell 6
    clear hb3 hbx
    go_wp2_with (go_at_call 22; refine (rbytes_no t _ w3 ((HT0.out.later HW3.out).up HW3.out.size) HZ.out).mono ?_)
    rintro _ w4 ⟨rfl, hb4⟩
    have HW4 := Lib.hid (below_more HW3.out hb4)
    have hcv := conv_bytes (Byt.of_own (World.ownsRow_nil w4 w4.heap.size 5 1) (fun x hx => absurd hx (List.not_mem_nil))) 0
    clear hb4 c0 c1 c2 c3 c4 c5 c6
    go_wp2_with (go_at_call 13; refine (lives_any _).mono ?_)
    first
      | rintro _ w5 rfl hb5
      | rintro _ w5 ⟨rfl, hb5⟩
    have HW5 := Lib.hid (below_more HW4.out hb5)
    clear hb5
    go_wp2
    go_ret
    exact ⟨rfl, HW5.out⟩
  · have HZ := Lib.hid hz
    clear hz
    go_enter Try.func5, Try.ntmps5
    go_wp2_with (go_at_call 12; refine (big_any t _ _ ?_).mono ?_)
    · exact HT.out
    rintro _ w2 ⟨he, hb2⟩
    rw [HBG.out] at he
    subst he
    have HW := Lib.hid (below_more (below_new _ _) hb2)
    have hbx := HBX.out.later hb2 (by simp)
    have HBX2 := Lib.hid hbx
    have c0 := hbx.cell 0
    have c1 := hbx.cell 1
    have c2 := hbx.cell 2
    have c3 := hbx.cell 3
    have c4 := hbx.cell 4
    have c5 := hbx.cell 5
    have c6 := hbx.cell 6
    clear hb2 hbx
    go_wp2_with (go_at_call 21; refine (bytes_yes t _ w2 ((HT0.out.later HW.out).up HW.out.size) HZ.out).mono ?_)
    rintro _ w3 ⟨V, rfl, ho, hlt, hb3⟩
    have HR := Lib.hid (show RowB w3 w2.heap.size V (lb t) from ⟨ho, hlt⟩)
    have HW3 := Lib.hid (below_more HW.out hb3)
    have hbx := HBX2.out.later hb3 HBX2.out.lt
    clear c0 c1 c2 c3 c4 c5 c6
    have c0 := hbx.cell 0
    have c1 := hbx.cell 1
    have c2 := hbx.cell 2
    have c3 := hbx.cell 3
    have c4 := hbx.cell 4
    have c5 := hbx.cell 5
    have c6 := hbx.cell 6
    clear hb3 hbx ho hlt
    go_wp2_with (go_at_call 22; refine (rbytes_yes t _ w3 ((HT0.out.later HW3.out).up HW3.out.size) HZ.out).mono ?_)
    rintro _ w4 ⟨V2, rfl, ho2, hb4⟩
    have hr := HR.out.below hb4
    obtain ⟨A1, C1, rfl, hby1⟩ := hr.byt
    obtain ⟨A2, C2, rfl, hby2⟩ := ho2.byt
    have HW4 := Lib.hid (below_more HW3.out hb4)
    have hcv1 := conv_bytes hby1 C1
    have hcv2 := conv_bytes hby2 C2
    generalize strOf (lb t) = ss at *
    clear ho2 hb4 c0 c1 c2 c3 c4 c5 c6 hr hby1 hby2
    go_wp2_with (go_at_call 13; refine (lives_any _).mono ?_)
    first
      | rintro _ w5 rfl hb5
      | rintro _ w5 ⟨rfl, hb5⟩
    have HW5 := Lib.hid (below_more HW4.out hb5)
    clear hb5
    go_wp2
    go_ret
    exact ⟨rfl, HW5.out⟩
end Go.Proofs.Ytbdhihgokkcmfaa.Ty9
