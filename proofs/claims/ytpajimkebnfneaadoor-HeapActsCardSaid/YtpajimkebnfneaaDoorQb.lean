/- GetBytes on both sides. -/
import Derived.Test.YtpajimkebnfneaaDoorKce
import Derived.Test.YtpajimkebnfneaaDoorJa
namespace Go.Proofs.YtpajimkebnfneaaDoor.X5
set_option linter.unusedVariables false
set_option linter.unusedSimpArgs false
open Go.RowKit Wd Ty9

theorem get84_ok (p m c : Nat) (A : Option Addr) (bs : List Nat) (w : World) (hm : m ≤ 140737488355328) (hc : m ≤ c) (hp : p + 4 ≤ m) (hb : Byt w w.heap.size A m bs) :
    Calls Tryd.prog 30 #[.slice A m c, .int .i64 p, .int .i64 4, .bool true] w fun e w' => e = .returned (.tuple #[.int .u64 (lval (lows true ((bs.drop p).take 4))), .int .i64 0]) ∧ Below w.heap.size w w' :=
  oget_ok true 4 p m c A bs w (by omega) (by omega) hm hc hp hb
set_option maxHeartbeats 2000000 in
set_option maxRecDepth 100000 in
theorem getb8_lt (p m c k : Nat) (A : Option Addr) (bs : List Nat) (w : World) (hm : m ≤ 140737488000000) (hc : m ≤ c) (hb : Byt w w.heap.size A m bs) (hk : lval (lows true ((bs.drop p).take 4)) = k) (hk2 : k ≤ 65536) (hp : p + 4 + k ≤ m) (hcc : p + 4 < c) :
    Calls Tryd.prog 31 #[.slice A m c, .int .i64 p] w fun e w' => ∃ V, e = .returned (.tuple #[V, .int .i64 ((p : Int) + 4 + k), .int .i64 0]) ∧ RowB w' w.heap.size V ((bs.drop (p + 4)).take k) ∧ Below w.heap.size w w' := by
  have HCC := Lib.hid hcc
  clear hcc
  have HP4 := Lib.hid (show p + 4 ≤ m by omega)
  have HB := Lib.hid hb
  have HK := Lib.hid hk
  have hl := hb.len
  have HXL := Lib.hid (show ((bs.drop (p + 4)).take k).length = k by rw [List.length_take, List.length_drop]; omega)
  have HXT := Lib.hid (show ∀ x ∈ (bs.drop (p + 4)).take k, x < 256 from fun x hx => hb.lt x (List.mem_of_mem_drop (List.mem_of_mem_take hx)))
  obtain ⟨b, o, rfl, hbb, _⟩ := hb.at_ (by omega)
  have HQ := Lib.hid (And.intro hk2 (And.intro hp (And.intro hm hc)))
  clear hk2 hp hm hc
  clear hb hk hl
  go_enter Tryd.func31, Tryd.ntmps31
  go_wp2_with (go_at_call 30; refine (get84_ok p m c _ bs w (by have := HQ.out.2.2.1; omega) HQ.out.2.2.2 HP4.out HB.out).mono ?_)
  rintro _ w2 ⟨he, hb2⟩
  rw [HK.out] at he
  subst he
  have HB2 := Lib.hid ((HB.out.later hb2).up hb2.size)
  have HW2 := Lib.hid hb2
  clear hb2
  obtain ⟨hk2, hp, hm, hc⟩ := HQ.out
  have i0 : ¬ ((65536 : Int) < (k : Int)) := by omega
  have i1 : IntKind.i64.wrap (k : Int) = (k : Int) := by rw [IntKind.wrap_i64]; omega
  have i2 : ¬ ((m : Int) - (p : Int) - 4 < (k : Int)) := by omega
  have i3 : (0 : Int) ≤ (p : Int) + 4 := by omega
  have i4 : (p : Int) + 4 ≤ (p : Int) + 4 + (k : Int) := by omega
  have i5 : (p : Int) + 4 + (k : Int) ≤ (c : Int) := by omega
  have s1 : wrap64 ((p : Int) + 4) = (p : Int) + 4 := by unfold wrap64; omega
  have s2 : wrap64 ((p : Int) + 4 + (k : Int)) = (p : Int) + 4 + (k : Int) := by unfold wrap64; omega
  have s3 : wrap64 ((m : Int) - (p : Int)) = (m : Int) - (p : Int) := by unfold wrap64; omega
  have s4 : wrap64 ((m : Int) - (p : Int) - 4) = (m : Int) - (p : Int) - 4 := by unfold wrap64; omega
  have s5 : ((p : Int) + 4).toNat = p + 4 := by omega
  have s6 : ((p : Int) + 4 + (k : Int)).toNat = p + 4 + k := by omega
  have hc4 : p + 4 < c := by have := HCC.out; omega
  have HCL := Lib.hid (cloneb_any (some ⟨b, o + (p + 4), none⟩) k (c - (p + 4)) ((bs.drop (p + 4)).take k) w2 (by omega) ⟨HXL.out, HXT.out, fun h0 => ⟨b, o + (p + 4), rfl, by have := HB2.out.at_ (by omega); obtain ⟨b', o', e, h1, _⟩ := this; cases e; exact h1, fun j hj => by
    obtain ⟨b', o', e, _, h2⟩ := HB2.out.at_ (by omega)
    cases e
    have hj2 : p + 4 + j < bs.length := by have h1 := HB2.out.len; have h3 := HXL.out; omega
    have h4 := h2 (p + 4 + j) hj2
    rw [← Nat.add_assoc] at h4
    rw [h4]
    simp⟩⟩)
  clear hk2 hp hm hc
  go_wp2_with (go_at_call 23; refine HCL.out.mono ?_)
  first
    | rintro _ w3 V rfl hrow hb
    | rintro _ w3 ⟨V, rfl, hrow, hb⟩
  have HR := Lib.hid (hrow.up HW2.out.size)
  have HB3 := Lib.hid (below_more HW2.out hb)
  clear hrow hb
  go_wp2
  go_ret3
  exact ⟨V, rfl, HR.out, HB3.out⟩
theorem get84_no (p m c : Nat) (A : Option Addr) (w : World) (hm : m ≤ 140737488355328) (hp : p ≤ m) (hs : m < p + 4) :
    Calls Tryd.prog 30 #[.slice A m c, .int .i64 p, .int .i64 4, .bool true] w fun e w' => e = .returned (.tuple #[.int .u64 0, .int .i64 4]) ∧ Below w.heap.size w w' :=
  oget_no true 4 p m c A w (by omega) (by omega) hm hp hs
set_option maxHeartbeats 2000000 in
set_option maxRecDepth 100000 in
theorem getb8_short (p m c : Nat) (A : Option Addr) (w : World) (hm : m ≤ 140737488355328) (hp : p ≤ m) (hs : m < p + 4) :
    Calls Tryd.prog 31 #[.slice A m c, .int .i64 p] w fun e w' => e = .returned (.tuple #[.slice none 0 0, .int .i64 0, .int .i64 4]) ∧ Below w.heap.size w w' := by
  have HG := Lib.hid (get84_no p m c A w hm hp hs)
  clear hm hp hs
  go_enter Tryd.func31, Tryd.ntmps31
  go_wp2_with (go_at_call 30; refine HG.out.mono ?_)
  first
    | rintro _ w2 rfl hb2
    | rintro _ w2 ⟨rfl, hb2⟩
  have HW2 := Lib.hid hb2
  clear hb2
  go_wp2
  go_ret3
  exact ⟨rfl, HW2.out⟩
set_option maxHeartbeats 2000000 in
set_option maxRecDepth 100000 in
theorem getb8_no (p m c k : Nat) (A : Option Addr) (bs : List Nat) (w : World) (hm : m ≤ 140737488355328) (hc : m ≤ c) (hb : Byt w w.heap.size A m bs) (hk : lval (lows true ((bs.drop p).take 4)) = k) (hp : p + 4 ≤ m) (hk2 : 65536 < k ∨ m < p + 4 + k) (hk4 : k < 4294967296) :
    Calls Tryd.prog 31 #[.slice A m c, .int .i64 p] w fun e w' => (∃ z : Int, z ≠ 0 ∧ e = .returned (.tuple #[.slice none 0 0, .int .i64 0, .int .i64 z])) ∧ Below w.heap.size w w' := by
  have hg := get84_ok p m c A bs w hm hc hp hb
  rw [hk] at hg
  have HG := Lib.hid hg
  have HQ := Lib.hid (And.intro hm (And.intro hp hk4))
  by_cases hk3 : 65536 < k
  · have HK := Lib.hid hk3
    clear hm hp hc hb hk hk2 hk4 hg hk3
    go_enter Tryd.func31, Tryd.ntmps31
    go_wp2_with (go_at_call 30; refine HG.out.mono ?_)
    first
      | rintro _ w2 rfl hb2
      | rintro _ w2 ⟨rfl, hb2⟩
    have HW2 := Lib.hid hb2
    have i0 : ((65536 : Int) < (k : Int)) := by have := HK.out; omega
    clear hb2
    go_wp2
    go_ret3
    exact ⟨⟨3, by omega, rfl⟩, HW2.out⟩
  · have HK := Lib.hid hk3
    have HK2 := Lib.hid (show m < p + 4 + k by omega)
    clear hm hp hc hb hk hk2 hk4 hg hk3
    go_enter Tryd.func31, Tryd.ntmps31
    go_wp2_with (go_at_call 30; refine HG.out.mono ?_)
    first
      | rintro _ w2 rfl hb2
      | rintro _ w2 ⟨rfl, hb2⟩
    have HW2 := Lib.hid hb2
    have q1 := HK.out
    have q2 := HK2.out
    have q3 := HQ.out
    have i0 : ¬ ((65536 : Int) < (k : Int)) := by omega
    have i1 : IntKind.i64.wrap (k : Int) = (k : Int) := by rw [IntKind.wrap_i64]; omega
    have i2 : ((m : Int) - (p : Int) - 4 < (k : Int)) := by omega
    have s3 : wrap64 ((m : Int) - (p : Int)) = (m : Int) - (p : Int) := by unfold wrap64; omega
    have s4 : wrap64 ((m : Int) - (p : Int) - 4) = (m : Int) - (p : Int) - 4 := by unfold wrap64; omega
    clear hb2 q1 q2 q3
    go_wp2
    go_ret3
    exact ⟨⟨4, by omega, rfl⟩, HW2.out⟩
set_option maxHeartbeats 2000000 in
set_option maxRecDepth 100000 in
theorem getb8_eq (p : Nat) (A : Option Addr) (bs : List Nat) (w : World) (hm : p + 4 ≤ 140737488355328) (hb : Byt w w.heap.size A (p + 4) bs) (hk : lval (lows true ((bs.drop p).take 4)) = 0) :
    Calls Tryd.prog 31 #[.slice A (p + 4) (p + 4), .int .i64 p] w fun e w' => ∃ V, e = .returned (.tuple #[V, .int .i64 ((p : Int) + 4), .int .i64 0]) ∧ RowB w' w.heap.size V [] ∧ Below w.heap.size w w' := by
  obtain ⟨b, o, rfl, hbb, _⟩ := hb.at_ (by omega)
  have hg := get84_ok p (p + 4) (p + 4) _ bs w hm (Nat.le_refl _) (Nat.le_refl _) hb
  rw [hk] at hg
  have HG := Lib.hid hg
  have HQ := Lib.hid hm
  clear hm hb hk hg
  go_enter Tryd.func31, Tryd.ntmps31
  go_wp2_with (go_at_call 30; refine HG.out.mono ?_)
  first
    | rintro _ w2 rfl hb2
    | rintro _ w2 ⟨rfl, hb2⟩
  have HW2 := Lib.hid hb2
  have q := HQ.out
  have s1 : wrap64 ((p : Int) + 4) = (p : Int) + 4 := by unfold wrap64; omega
  have s3 : wrap64 ((p : Int) + 4 - (p : Int)) = 4 := by unfold wrap64; omega
  have s5 : ((p : Int) + 4).toNat = p + 4 := by omega
  clear hb2 q
  have HCL := Lib.hid (cloneb_any (some ⟨b, o, none⟩) 0 0 [] w2 (by decide) ⟨rfl, fun _ h => absurd h List.not_mem_nil, fun h => absurd h (Nat.lt_irrefl _)⟩)
  go_wp2_with (go_at_call 23; refine HCL.out.mono ?_)
  first
    | rintro _ w3 V rfl hrow hb
    | rintro _ w3 ⟨V, rfl, hrow, hb⟩
  have HR := Lib.hid (hrow.up HW2.out.size)
  have HB3 := Lib.hid (below_more HW2.out hb)
  clear hrow hb
  go_wp2
  go_ret3
  exact ⟨V, rfl, HR.out, HB3.out⟩
theorem getb8_ok (p m c k : Nat) (A : Option Addr) (bs : List Nat) (w : World) (hm : m ≤ 140737488000000) (hc : m ≤ c) (hb : Byt w w.heap.size A m bs) (hk : lval (lows true ((bs.drop p).take 4)) = k) (hk2 : k ≤ 65536) (hp : p + 4 + k ≤ m) :
    Calls Tryd.prog 31 #[.slice A m c, .int .i64 p] w fun e w' => ∃ V, e = .returned (.tuple #[V, .int .i64 ((p : Int) + 4 + k), .int .i64 0]) ∧ RowB w' w.heap.size V ((bs.drop (p + 4)).take k) ∧ Below w.heap.size w w' := by
  by_cases hcc : p + 4 < c
  · exact getb8_lt p m c k A bs w hm hc hb hk hk2 hp hcc
  · obtain rfl : c = p + 4 := by omega
    obtain rfl : m = p + 4 := by omega
    obtain rfl : k = 0 := by omega
    refine (getb8_eq p A bs w (by omega) hb hk).mono ?_
    rintro e w' ⟨V, h1, h2, h3⟩
    exact ⟨V, by rw [h1]; simp, by simpa using h2, h3⟩

end Go.Proofs.YtpajimkebnfneaaDoor.X5
