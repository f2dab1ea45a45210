/- GetBytes on both sides. -/
import Derived.Test.YtbdhihgokkcmfaaJa
import Derived.Test.YtbdhihgokkcmfaaGd
namespace Go.Proofs.Ytbdhihgokkcmfaa.Ty9
set_option linter.unusedVariables false
set_option linter.unusedSimpArgs false
open Go.RowKit Wd

set_option maxRecDepth 100000 in
theorem clone_U (w : World) (A : Option Addr) (n c : Nat) (news : List Value) (hn : news.length = n * 1) (hA : 0 < n → ∃ ad, A = some ad ∧ ∀ j u, news[j]? = some u → w.cell? (ad.add j) = some u) (h1c : ∀ u ∈ news, u.oneCell' = true) (b1 : n ≤ maxLen) (b2 : n * 1 ≤ 140737488355328) :
    Calls Try.prog 90 #[.slice A n c] w fun e w' => ∃ A' C', e = .returned (.slice A' n C') ∧ Copied w w' A' C' n news := by
  obtain ⟨i0, hi0, hz0, hz1, hz2⟩ := info_parts byte_info
  have qn : ∀ (w : World) (a : Option Addr) (n c n' c' : Nat), (binOp .eql 49 (.slice a n c) (.slice none n' c')).run Try.prog w = .ok (.bool a.isNone) w := fun w a n c n' c' => Lib.run_eql_slice_nil w _ _ a n c n' c' Try.underlying49
  rcases A with _ | ad
  · have hn0 : n = 0 := by
      rcases Nat.eq_zero_or_pos n with h | h
      · exact h
      · obtain ⟨ad, h1, _⟩ := hA h; cases h1
    subst hn0
    obtain rfl : news = [] := List.eq_nil_of_length_eq_zero (by simpa using hn)
    clear hA
    go_enter Try.func90, Try.ntmps90
    go_wp2
    go_ret
    exact ⟨_, _, rfl, Below.refl _ _, Nat.le_refl _, fun _ h => absurd h (Nat.lt_irrefl _), fun h => absurd h (Nat.lt_irrefl _)⟩
  · have HA := Lib.hid (show 0 < n → ∃ ad', some ad = some ad' ∧ ∀ j u, news[j]? = some u → (w.alloc (.cells #[] 5)).cell? (ad'.add j) = some u from fun h => by
      obtain ⟨ad', h1, h2⟩ := hA h
      refine ⟨ad', h1, fun j u hu => ?_⟩
      have h3 := h2 j u hu
      have hb : (ad'.add j).block < w.heap.size := by
        rcases Nat.lt_or_ge (ad'.add j).block w.heap.size with h4 | h4
        · exact h4
        · exact absurd h3 (by rw [cell_none w (ad'.add j) h4]; simp)
      exact ((below_new w _).cell hb).trans h3)
    clear hA
    go_enter Try.func90, Try.ntmps90
    go_wp2_with (at_builtin; refine wpList_copy rfl (.tmp 5) (.tmp 6) 49 rfl 5 i0 (.int .u8 0) 1 1 Try.underlying49 hi0 hz0 hz1 hz2 rfl (by decide) (some ad) _ n c rfl rfl news hn HA.out h1c b1 b2 ?_; intro A2 C2 w2 hcp)
    go_ret
    exact ⟨_, _, rfl, hcp.back⟩


theorem by8_1c (xs : List Nat) : ∀ u ∈ by8 xs, u.oneCell' = true := by
  intro u hu; simp [by8] at hu; obtain ⟨x, _, rfl⟩ := hu; rfl
theorem Copied.byt {w w' : World} {A' : Option Addr} {C' n : Nat} {xs : List Nat} (h : Copied w w' A' C' n (by8 xs)) (hl : xs.length = n) (hlt : ∀ x ∈ xs, x < 256) : Byt w' w'.heap.size A' n xs := by
  refine ⟨hl, hlt, fun hn => ?_⟩
  obtain ⟨g, e, q1, q2, q3⟩ := h.row hn
  refine ⟨g, 0, e, q2, fun j hj => ?_⟩
  rw [Nat.zero_add]
  exact q3 j _ (by simp [by8, hj])
/-- A part of bytes, as cells. -/
theorem Byt.cells {w : World} {B : Nat} {A : Option Addr} {m : Nat} {bs : List Nat} (h : Byt w B A m bs) {p n : Nat} (hp : p + n ≤ m) {b o : Nat} (hA : A = some ⟨b, o, none⟩) : ∀ j u, (by8 ((bs.drop p).take n))[j]? = some u → w.cell? ((⟨b, o + p, none⟩ : Addr).add j) = some u := by
  intro j u hu
  have hj := (List.getElem?_eq_some_iff.mp hu).1
  rw [by8_len] at hj
  have hl := h.len
  have hlen : ((bs.drop p).take n).length = n := by rw [List.length_take, List.length_drop]; omega
  obtain ⟨b2, o2, e, hb, hlen2, hlt, hc⟩ := h.part (p := p) (n := n) hp (by omega)
  rw [hA] at e
  have e2 := Option.some.inj e
  injection e2 with e3 e4
  subst e3 e4
  rw [addr_add9, hc j hj]
  generalize (bs.drop p).take n = xs at *
  rw [← hu]
  simp [by8, hj]

theorem oget4_ok (p m c : Nat) (A : Option Addr) (bs : List Nat) (w : World) (hm : m ≤ 140737488355328) (hc : m ≤ c) (hp : p + 4 ≤ m) (hb : Byt w w.heap.size A m bs) :
    Calls Try.prog 78 #[.slice A m c, .int .i64 p, .int .i64 4, .bool true] w fun e w' => e = .returned (.tuple #[.int .u64 (lval (lows true ((bs.drop p).take 4))), .int .i64 0]) ∧ Below w.heap.size w w' :=
  oget_ok true 4 p m c A bs w (by omega) (by omega) hm hc hp hb

set_option maxHeartbeats 2000000 in
set_option maxRecDepth 100000 in
theorem ogetb_ok (p m c k : Nat) (A : Option Addr) (bs : List Nat) (w : World) (hm : m ≤ 140737488355328) (hc : m ≤ c) (hb : Byt w w.heap.size A m bs) (hk : lval (lows true ((bs.drop p).take 4)) = k) (hk2 : k ≤ 65536) (hp : p + 4 + k ≤ m) (hcc : p + 4 < c) :
    Calls Try.prog 79 #[.slice A m c, .int .i64 p] w fun e w' => ∃ A' C', e = .returned (.tuple #[.slice A' k C', .int .i64 ((p : Int) + 4 + k), .int .i64 0]) ∧ Byt w' w'.heap.size A' k ((bs.drop (p + 4)).take k) ∧ Below w.heap.size w w' := by
  have HCC := Lib.hid hcc
  clear hcc
  have HP4 := Lib.hid (show p + 4 ≤ m by omega)
  have HB := Lib.hid hb
  have HK := Lib.hid hk
  have hl := hb.len
  have HXL := Lib.hid (show ((bs.drop (p + 4)).take k).length = k by rw [List.length_take, List.length_drop]; omega)
  have HXT := Lib.hid (show ∀ x ∈ (bs.drop (p + 4)).take k, x < 256 from fun x hx => hb.lt x (List.mem_of_mem_drop (List.mem_of_mem_take hx)))
  obtain ⟨b, o, rfl, hbb, _⟩ := hb.at_ (by omega)
  have HQ := Lib.hid (And.intro hk2 (And.intro hp (And.intro hm hc)))
  clear hk2 hp hm hc
  clear hb hk hl
  go_enter Try.func79, Try.ntmps79
  go_wp2_with (go_at_call 78; refine (oget4_ok p m c _ bs w HQ.out.2.2.1 HQ.out.2.2.2 HP4.out HB.out).mono ?_)
  rintro _ w2 ⟨he, hb2⟩
  rw [HK.out] at he
  subst he
  have HB2 := Lib.hid ((HB.out.later hb2).up hb2.size)
  have HW2 := Lib.hid hb2
  clear hb2
  obtain ⟨hk2, hp, hm, hc⟩ := HQ.out
  have i0 : ¬ ((65536 : Int) < (k : Int)) := by omega
  have i1 : IntKind.i64.wrap (k : Int) = (k : Int) := by rw [IntKind.wrap_i64]; omega
  have i2 : ¬ ((m : Int) - (p : Int) - 4 < (k : Int)) := by omega
  have i3 : (0 : Int) ≤ (p : Int) + 4 := by omega
  have i4 : (p : Int) + 4 ≤ (p : Int) + 4 + (k : Int) := by omega
  have i5 : (p : Int) + 4 + (k : Int) ≤ (c : Int) := by omega
  have s1 : wrap64 ((p : Int) + 4) = (p : Int) + 4 := by unfold wrap64; omega
  have s2 : wrap64 ((p : Int) + 4 + (k : Int)) = (p : Int) + 4 + (k : Int) := by unfold wrap64; omega
  have s3 : wrap64 ((m : Int) - (p : Int)) = (m : Int) - (p : Int) := by unfold wrap64; omega
  have s4 : wrap64 ((m : Int) - (p : Int) - 4) = (m : Int) - (p : Int) - 4 := by unfold wrap64; omega
  have s5 : ((p : Int) + 4).toNat = p + 4 := by omega
  have s6 : ((p : Int) + 4 + (k : Int)).toNat = p + 4 + k := by omega
  have hc4 : p + 4 < c := by have := HCC.out; omega
  have HCE := Lib.hid (show ∀ j u, (by8 ((bs.drop (p + 4)).take k))[j]? = some u → w2.cell? ((⟨b, o + (p + 4), none⟩ : Addr).add j) = some u from HB2.out.cells (by omega) rfl)
  have HN1 := Lib.hid (show (by8 ((bs.drop (p + 4)).take k)).length = k * 1 by rw [by8_len, HXL.out, Nat.mul_one])
  have HN2 := Lib.hid (show k ≤ maxLen by unfold maxLen; omega)
  have HN3 := Lib.hid (show k * 1 ≤ 140737488355328 by omega)
  clear hk2 hp hm hc
  go_wp2_with (go_at_call 90; refine (clone_U w2 (some ⟨b, o + (p + 4), none⟩) k _ (by8 ((bs.drop (p + 4)).take k)) HN1.out (fun _ => ⟨_, rfl, HCE.out⟩) (by8_1c _) HN2.out HN3.out).mono ?_)
  first
    | rintro _ w3 A' C' rfl hcp
    | rintro _ w3 ⟨A', C', rfl, hcp⟩
  have HCP := Lib.hid hcp
  clear hcp
  go_wp2
  go_ret3
  exact ⟨A', C', rfl, HCP.out.byt HXL.out HXT.out, below_more HW2.out HCP.out.be⟩

theorem oget4_no (p m c : Nat) (A : Option Addr) (w : World) (hm : m ≤ 140737488355328) (hp : p ≤ m) (hs : m < p + 4) :
    Calls Try.prog 78 #[.slice A m c, .int .i64 p, .int .i64 4, .bool true] w fun e w' => e = .returned (.tuple #[.int .u64 0, .int .i64 4]) ∧ Below w.heap.size w w' :=
  oget_no true 4 p m c A w (by omega) (by omega) hm hp hs
set_option maxHeartbeats 2000000 in
set_option maxRecDepth 100000 in
theorem ogetb_short (p m c : Nat) (A : Option Addr) (w : World) (hm : m ≤ 140737488355328) (hp : p ≤ m) (hs : m < p + 4) :
    Calls Try.prog 79 #[.slice A m c, .int .i64 p] w fun e w' => e = .returned (.tuple #[.slice none 0 0, .int .i64 0, .int .i64 4]) ∧ Below w.heap.size w w' := by
  have HG := Lib.hid (oget4_no p m c A w hm hp hs)
  clear hm hp hs
  go_enter Try.func79, Try.ntmps79
  go_wp2_with (go_at_call 78; refine HG.out.mono ?_)
  first
    | rintro _ w2 rfl hb2
    | rintro _ w2 ⟨rfl, hb2⟩
  have HW2 := Lib.hid hb2
  clear hb2
  go_wp2
  go_ret3
  exact ⟨rfl, HW2.out⟩
set_option maxHeartbeats 2000000 in
set_option maxRecDepth 100000 in
theorem ogetb_no (p m c k : Nat) (A : Option Addr) (bs : List Nat) (w : World) (hm : m ≤ 140737488355328) (hc : m ≤ c) (hb : Byt w w.heap.size A m bs) (hk : lval (lows true ((bs.drop p).take 4)) = k) (hp : p + 4 ≤ m) (hk2 : 65536 < k ∨ m < p + 4 + k) (hk4 : k < 4294967296) :
    Calls Try.prog 79 #[.slice A m c, .int .i64 p] w fun e w' => (∃ z : Int, z ≠ 0 ∧ e = .returned (.tuple #[.slice none 0 0, .int .i64 0, .int .i64 z])) ∧ Below w.heap.size w w' := by
  have hg := oget4_ok p m c A bs w hm hc hp hb
  rw [hk] at hg
  have HG := Lib.hid hg
  have HQ := Lib.hid (And.intro hm (And.intro hp hk4))
  by_cases hk3 : 65536 < k
  · have HK := Lib.hid hk3
    clear hm hp hc hb hk hk2 hk4 hg hk3
    go_enter Try.func79, Try.ntmps79
    go_wp2_with (go_at_call 78; refine HG.out.mono ?_)
    first
      | rintro _ w2 rfl hb2
      | rintro _ w2 ⟨rfl, hb2⟩
    have HW2 := Lib.hid hb2
    have i0 : ((65536 : Int) < (k : Int)) := by have := HK.out; omega
    clear hb2
    go_wp2
    go_ret3
    exact ⟨⟨3, by omega, rfl⟩, HW2.out⟩
  · have HK := Lib.hid hk3
    have HK2 := Lib.hid (show m < p + 4 + k by omega)
    clear hm hp hc hb hk hk2 hk4 hg hk3
    go_enter Try.func79, Try.ntmps79
    go_wp2_with (go_at_call 78; refine HG.out.mono ?_)
    first
      | rintro _ w2 rfl hb2
      | rintro _ w2 ⟨rfl, hb2⟩
    have HW2 := Lib.hid hb2
    have q1 := HK.out
    have q2 := HK2.out
    have q3 := HQ.out
    have i0 : ¬ ((65536 : Int) < (k : Int)) := by omega
    have i1 : IntKind.i64.wrap (k : Int) = (k : Int) := by rw [IntKind.wrap_i64]; omega
    have i2 : ((m : Int) - (p : Int) - 4 < (k : Int)) := by omega
    have s3 : wrap64 ((m : Int) - (p : Int)) = (m : Int) - (p : Int) := by unfold wrap64; omega
    have s4 : wrap64 ((m : Int) - (p : Int) - 4) = (m : Int) - (p : Int) - 4 := by unfold wrap64; omega
    clear hb2 q1 q2 q3
    go_wp2
    go_ret3
    exact ⟨⟨4, by omega, rfl⟩, HW2.out⟩

set_option maxHeartbeats 2000000 in
set_option maxRecDepth 100000 in
theorem ogetb_ok0 (p : Nat) (A : Option Addr) (bs : List Nat) (w : World) (hm : p + 4 ≤ 140737488355328) (hb : Byt w w.heap.size A (p + 4) bs) (hk : lval (lows true ((bs.drop p).take 4)) = 0) :
    Calls Try.prog 79 #[.slice A (p + 4) (p + 4), .int .i64 p] w fun e w' => ∃ A' C', e = .returned (.tuple #[.slice A' 0 C', .int .i64 ((p : Int) + 4), .int .i64 0]) ∧ Byt w' w'.heap.size A' 0 [] ∧ Below w.heap.size w w' := by
  obtain ⟨b, o, rfl, hbb, _⟩ := hb.at_ (by omega)
  have hg := oget4_ok p (p + 4) (p + 4) _ bs w hm (Nat.le_refl _) (Nat.le_refl _) hb
  rw [hk] at hg
  have HG := Lib.hid hg
  have HQ := Lib.hid hm
  clear hm hb hk hg
  go_enter Try.func79, Try.ntmps79
  go_wp2_with (go_at_call 78; refine HG.out.mono ?_)
  first
    | rintro _ w2 rfl hb2
    | rintro _ w2 ⟨rfl, hb2⟩
  have HW2 := Lib.hid hb2
  have q := HQ.out
  have s1 : wrap64 ((p : Int) + 4) = (p : Int) + 4 := by unfold wrap64; omega
  have s3 : wrap64 ((p : Int) + 4 - (p : Int)) = 4 := by unfold wrap64; omega
  have s5 : ((p : Int) + 4).toNat = p + 4 := by omega
  clear hb2 q
  go_wp2_with (go_at_call 90; refine (clone_U w2 (some ⟨b, o, none⟩) 0 0 [] rfl (fun h => absurd h (Nat.lt_irrefl _)) (fun _ h => absurd h List.not_mem_nil) (Nat.zero_le _) (by decide)).mono ?_)
  first
    | rintro _ w3 A' C' rfl hcp
    | rintro _ w3 ⟨A', C', rfl, hcp⟩
  have HCP := Lib.hid hcp
  clear hcp
  go_wp2
  go_ret3
  exact ⟨A', C', rfl, ⟨rfl, fun _ h => absurd h List.not_mem_nil, fun h => absurd h (Nat.lt_irrefl _)⟩, below_more HW2.out HCP.out.be⟩

theorem rget4_ok (p m c : Nat) (A : Option Addr) (bs : List Nat) (w : World) (hm : m ≤ 140737488355328) (hp : p + 4 ≤ m) (hb : Byt w w.heap.size A m bs) :
    Calls Try.prog 80 #[.slice A m c, .int .i64 p, .int .i64 4, .bool true] w fun e w' => e = .returned (.tuple #[.int .u64 (lval (lows true ((bs.drop p).take 4))), .int .i64 0]) ∧ Below w.heap.size w w' :=
  rget_ok true 4 p m c A bs w (by omega) (by omega) hm hp hb
theorem rget4_no (p m c : Nat) (A : Option Addr) (w : World) (hm : m ≤ 140737488355328) (hp : p ≤ m) (hs : m < p + 4) :
    Calls Try.prog 80 #[.slice A m c, .int .i64 p, .int .i64 4, .bool true] w fun e w' => e = .returned (.tuple #[.int .u64 0, .int .i64 4]) ∧ Below w.heap.size w w' :=
  rget_no true 4 p m c A w (by omega) (by omega) hm hp hs
set_option maxHeartbeats 2000000 in
set_option maxRecDepth 100000 in
theorem rgetb_short (p m c : Nat) (A : Option Addr) (w : World) (hm : m ≤ 140737488355328) (hp : p ≤ m) (hs : m < p + 4) :
    Calls Try.prog 81 #[.slice A m c, .int .i64 p] w fun e w' => e = .returned (.tuple #[.slice none 0 0, .int .i64 0, .int .i64 4]) ∧ Below w.heap.size w w' := by
  have HG := Lib.hid (rget4_no p m c A w hm hp hs)
  clear hm hp hs
  go_enter Try.func81, Try.ntmps81
  go_wp2_with (go_at_call 80; refine HG.out.mono ?_)
  first
    | rintro _ w2 rfl hb2
    | rintro _ w2 ⟨rfl, hb2⟩
  have HW2 := Lib.hid hb2
  clear hb2
  go_wp2
  go_ret3
  exact ⟨rfl, HW2.out⟩
set_option maxHeartbeats 2000000 in
set_option maxRecDepth 100000 in
theorem rgetb_no (p m c k : Nat) (A : Option Addr) (bs : List Nat) (w : World) (hm : m ≤ 140737488355328) (hc : m ≤ c) (hb : Byt w w.heap.size A m bs) (hk : lval (lows true ((bs.drop p).take 4)) = k) (hp : p + 4 ≤ m) (hk2 : 65536 < k ∨ m < p + 4 + k) (hk4 : k < 4294967296) :
    Calls Try.prog 81 #[.slice A m c, .int .i64 p] w fun e w' => (∃ z : Int, z ≠ 0 ∧ e = .returned (.tuple #[.slice none 0 0, .int .i64 0, .int .i64 z])) ∧ Below w.heap.size w w' := by
  have hg := rget4_ok p m c A bs w hm hp hb
  rw [hk] at hg
  have HG := Lib.hid hg
  have HQ := Lib.hid (And.intro hm (And.intro hp hk4))
  by_cases hk3 : 65536 < k
  · have HK := Lib.hid hk3
    clear hm hp hc hb hk hk2 hk4 hg hk3
    go_enter Try.func81, Try.ntmps81
    go_wp2_with (go_at_call 80; refine HG.out.mono ?_)
    first
      | rintro _ w2 rfl hb2
      | rintro _ w2 ⟨rfl, hb2⟩
    have HW2 := Lib.hid hb2
    have i0 : ((65536 : Int) < (k : Int)) := by have := HK.out; omega
    clear hb2
    go_wp2
    go_ret3
    exact ⟨⟨3, by omega, rfl⟩, HW2.out⟩
  · have HK := Lib.hid hk3
    have HK2 := Lib.hid (show m < p + 4 + k by omega)
    clear hm hp hc hb hk hk2 hk4 hg hk3
    go_enter Try.func81, Try.ntmps81
    go_wp2_with (go_at_call 80; refine HG.out.mono ?_)
    first
      | rintro _ w2 rfl hb2
      | rintro _ w2 ⟨rfl, hb2⟩
    have HW2 := Lib.hid hb2
    have q1 := HK.out
    have q2 := HK2.out
    have q3 := HQ.out
    have i0 : ¬ ((65536 : Int) < (k : Int)) := by omega
    have i1 : IntKind.i64.wrap (k : Int) = (k : Int) := by rw [IntKind.wrap_i64]; omega
    have i2 : ((m : Int) - (p : Int) - 4 < (k : Int)) := by omega
    have s3 : wrap64 ((m : Int) - (p : Int)) = (m : Int) - (p : Int) := by unfold wrap64; omega
    have s4 : wrap64 ((m : Int) - (p : Int) - 4) = (m : Int) - (p : Int) - 4 := by unfold wrap64; omega
    clear hb2 q1 q2 q3
    go_wp2
    go_ret3
    exact ⟨⟨4, by omega, rfl⟩, HW2.out⟩
set_option maxHeartbeats 2000000 in
set_option maxRecDepth 100000 in
theorem rgetb_ok (p m c k : Nat) (A : Option Addr) (bs : List Nat) (w : World) (hm : m ≤ 140737488355328) (hc : m ≤ c) (hb : Byt w w.heap.size A m bs) (hk : lval (lows true ((bs.drop p).take 4)) = k) (hk2 : k ≤ 65536) (hp : p + 4 + k ≤ m) (hcc : p + 4 < c) :
    Calls Try.prog 81 #[.slice A m c, .int .i64 p] w fun e w' => ∃ A' C', e = .returned (.tuple #[.slice A' k C', .int .i64 ((p : Int) + 4 + k), .int .i64 0]) ∧ Byt w' w'.heap.size A' k ((bs.drop (p + 4)).take k) ∧ Below w.heap.size w w' := by
  have HCC := Lib.hid hcc
  clear hcc
  have HB := Lib.hid hb
  have hl := hb.len
  have HXL := Lib.hid (show ((bs.drop (p + 4)).take k).length = k by rw [List.length_take, List.length_drop]; omega)
  have HXT := Lib.hid (show ∀ x ∈ (bs.drop (p + 4)).take k, x < 256 from fun x hx => hb.lt x (List.mem_of_mem_drop (List.mem_of_mem_take hx)))
  have hg := rget4_ok p m c A bs w hm (by omega) hb
  rw [hk] at hg
  obtain ⟨b, o, rfl, hbb, _⟩ := hb.at_ (by omega)
  have HG := Lib.hid hg
  have HQ := Lib.hid (And.intro hk2 (And.intro hp (And.intro hm hc)))
  clear hk2 hp hm hc hb hk hl hg
  go_enter Try.func81, Try.ntmps81
  go_wp2_with (go_at_call 80; refine HG.out.mono ?_)
  first
    | rintro _ w2 rfl hb2
    | rintro _ w2 ⟨rfl, hb2⟩
  have HB2 := Lib.hid ((HB.out.later hb2).up hb2.size)
  have HW2 := Lib.hid hb2
  clear hb2
  obtain ⟨hk2, hp, hm, hc⟩ := HQ.out
  have i0 : ¬ ((65536 : Int) < (k : Int)) := by omega
  have i1 : IntKind.i64.wrap (k : Int) = (k : Int) := by rw [IntKind.wrap_i64]; omega
  have i2 : ¬ ((m : Int) - (p : Int) - 4 < (k : Int)) := by omega
  have i3 : (0 : Int) ≤ (p : Int) + 4 := by omega
  have i4 : (p : Int) + 4 ≤ (p : Int) + 4 + (k : Int) := by omega
  have i5 : (p : Int) + 4 + (k : Int) ≤ (c : Int) := by omega
  have s1 : wrap64 ((p : Int) + 4) = (p : Int) + 4 := by unfold wrap64; omega
  have s2 : wrap64 ((p : Int) + 4 + (k : Int)) = (p : Int) + 4 + (k : Int) := by unfold wrap64; omega
  have s3 : wrap64 ((m : Int) - (p : Int)) = (m : Int) - (p : Int) := by unfold wrap64; omega
  have s4 : wrap64 ((m : Int) - (p : Int) - 4) = (m : Int) - (p : Int) - 4 := by unfold wrap64; omega
  have s5 : ((p : Int) + 4).toNat = p + 4 := by omega
  have s6 : ((p : Int) + 4 + (k : Int)).toNat = p + 4 + k := by omega
  have hc4 : p + 4 < c := by have := HCC.out; omega
  have hb3 := HB2.out.later (below_new w2 (.cells #[] 5))
  have hpk : p + 4 + k ≤ m := hp
  have HCE := Lib.hid (Byt.cells hb3 (p := p + 4) (n := k) (b := b) (o := o) hpk rfl)
  clear hb3 hpk
  have HN1 := Lib.hid (show (by8 ((bs.drop (p + 4)).take k)).length = k * 1 by rw [by8_len, HXL.out, Nat.mul_one])
  have HN2 := Lib.hid (show k ≤ maxLen by unfold maxLen; omega)
  have HN3 := Lib.hid (show k * 1 ≤ 140737488355328 by omega)
  clear hk2 hp hm hc
  obtain ⟨i0_, hi0, hz0, hz1, hz2⟩ := info_parts byte_info
  go_wp2_with (at_builtin; refine wpList_copy rfl (.tmp 28) (.tmp 37) 49 rfl 5 i0_ (.int .u8 0) 1 1 Try.underlying49 hi0 hz0 hz1 hz2 rfl (by decide) (some ⟨b, o + (p + 4), none⟩) _ k _ rfl rfl (by8 ((bs.drop (p + 4)).take k)) HN1.out (fun _ => ⟨_, rfl, HCE.out⟩) (by8_1c _) HN2.out HN3.out ?_; intro A' C' w3 hcp)
  have HCP := Lib.hid hcp.back
  clear hcp
  go_wp2
  go_ret3
  exact ⟨A', C', congrArg (fun z => Ending.returned (.tuple #[.slice A' k C', .int .i64 z, .int .i64 0])) s2, HCP.out.byt HXL.out HXT.out, below_more HW2.out HCP.out.be⟩
set_option maxHeartbeats 2000000 in
set_option maxRecDepth 100000 in
theorem rgetb_ok0 (p : Nat) (A : Option Addr) (bs : List Nat) (w : World) (hm : p + 4 ≤ 140737488355328) (hb : Byt w w.heap.size A (p + 4) bs) (hk : lval (lows true ((bs.drop p).take 4)) = 0) :
    Calls Try.prog 81 #[.slice A (p + 4) (p + 4), .int .i64 p] w fun e w' => ∃ A' C', e = .returned (.tuple #[.slice A' 0 C', .int .i64 ((p : Int) + 4), .int .i64 0]) ∧ Byt w' w'.heap.size A' 0 [] ∧ Below w.heap.size w w' := by
  obtain ⟨b, o, rfl, hbb, _⟩ := hb.at_ (by omega)
  have hg := rget4_ok p (p + 4) (p + 4) _ bs w hm (Nat.le_refl _) hb
  rw [hk] at hg
  have HG := Lib.hid hg
  have HQ := Lib.hid hm
  clear hm hb hk hg
  go_enter Try.func81, Try.ntmps81
  go_wp2_with (go_at_call 80; refine HG.out.mono ?_)
  first
    | rintro _ w2 rfl hb2
    | rintro _ w2 ⟨rfl, hb2⟩
  have HW2 := Lib.hid hb2
  have q := HQ.out
  have s1 : wrap64 ((p : Int) + 4) = (p : Int) + 4 := by unfold wrap64; omega
  have s3 : wrap64 ((p : Int) + 4 - (p : Int)) = 4 := by unfold wrap64; omega
  have s5 : ((p : Int) + 4).toNat = p + 4 := by omega
  clear hb2 q
  obtain ⟨i0_, hi0, hz0, hz1, hz2⟩ := info_parts byte_info
  go_wp2_with (at_builtin; refine wpList_copy rfl (.tmp 28) (.tmp 37) 49 rfl 5 i0_ (.int .u8 0) 1 1 Try.underlying49 hi0 hz0 hz1 hz2 rfl (by decide) (some ⟨b, o, none⟩) _ 0 0 rfl rfl [] rfl (fun h => absurd h (Nat.lt_irrefl _)) (fun _ h => absurd h List.not_mem_nil) (Nat.zero_le _) (by decide) ?_; intro A' C' w3 hcp)
  have HCP := Lib.hid hcp.back
  clear hcp
  go_wp2
  go_ret3
  exact ⟨A', C', congrArg (fun z => Ending.returned (.tuple #[.slice A' 0 C', .int .i64 z, .int .i64 0])) s1, ⟨rfl, fun _ h => absurd h List.not_mem_nil, fun h => absurd h (Nat.lt_irrefl _)⟩, below_more HW2.out HCP.out.be⟩
end Go.Proofs.Ytbdhihgokkcmfaa.Ty9
