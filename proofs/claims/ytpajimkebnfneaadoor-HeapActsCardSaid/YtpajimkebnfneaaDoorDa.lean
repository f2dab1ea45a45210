/- The reference's bytes: Swap, Digits, PutBytes. -/
import Derived.Test.YtpajimkebnfneaaDoorOf
namespace Go.Proofs.YtpajimkebnfneaaDoor.Ty9
set_option linter.unusedVariables false
set_option linter.unusedSimpArgs false
open Go.RowKit Wd

/-- A row of bytes of the call's own. -/
structure RowB (w : World) (base : Nat) (V : Value) (bs : List Nat) : Prop where
  own : w.ownsRow base 5 1 V bs.length (by8 bs)
  lt : ∀ x ∈ bs, x < 256
theorem RowB.below {w w' : World} {base : Nat} {V : Value} {bs : List Nat} (h : RowB w base V bs) (hb : Below w.heap.size w w') : RowB w' base V bs :=
  ⟨((Rl.refl h.own h.lt).below hb).own, h.lt⟩
theorem RowB.up {w : World} {base b0 : Nat} {V : Value} {bs : List Nat} (h : RowB w base V bs) (hb : b0 ≤ base) : RowB w b0 V bs := ⟨own_base h.own hb, h.lt⟩
theorem RowB.nil (w : World) (base : Nat) : RowB w base (.slice none 0 0) [] := ⟨World.ownsRow_nil _ _ _ _, fun x h => absurd h (List.not_mem_nil)⟩
theorem RowB.lit (w : World) (bs : List Nat) (hl : ∀ x ∈ bs, x < 256) (hs : bs.length ≤ 1000) {base : Nat} (hb : base ≤ w.heap.size) : RowB (w.alloc (.cells (by8 bs).toArray 5)) base (.slice (some ⟨w.heap.size, 0, none⟩) bs.length bs.length) bs :=
  ⟨by
    have h := World.ownsRow_lit (base := base) (e := 5) (size := 1) w (by8 bs).toArray bs.length hb (by unfold maxLen; omega) (by rw [List.size_toArray, by8_len, Nat.mul_one])
    exact h, hl⟩
/-- The law of the walk: a row grows. -/
theorem wp_rowb {ops : Array Oper} {rest : List Oper} {o : Oper} {a : Act} {w : World} {Q : Exit → Act → World → Prop} (hgd : o.guard = none) (s x : Operand)
    (ho : o.op = .call { callee := .builtin .append, args := #[s, x], argTypes := #[22, 22] })
    (base m c : Nat) (V : Value) (bs xs : List Nat) (A : Option Addr) (B : Nat) (hs : a.eval s = V) (hx : a.eval x = .slice A m c) (h1 : RowB w base V bs) (hb : Byt w B A m xs) (hl : bs.length + m ≤ 140737488355328) (hbase : base ≤ w.heap.size)
    (h : ∀ V' w', RowB w' base V' (bs ++ xs) → Below base w w' → wpList Tryd.prog ops Q rest (a.put o.dst V') w') :
    wpList Tryd.prog ops Q (o :: rest) a w :=
  wp_app hgd s x ho base m c V bs xs A B hs hx h1.own h1.lt hb hl hbase fun V' w' hr => h V' w' ⟨hr.own, hr.lt⟩ (hr.keep hbase (fun k hk => (h1.own.lt k hk).1))
theorem RowB.byt {w : World} {base : Nat} {V : Value} {bs : List Nat} (h : RowB w base V bs) : ∃ A c, V = .slice A bs.length c ∧ Byt w w.heap.size A bs.length bs := by
  obtain ⟨A, c, rfl⟩ := own_form h.own
  exact ⟨A, c, rfl, Byt.of_own h.own h.lt⟩

set_option maxHeartbeats 2000000 in
set_option maxRecDepth 100000 in
theorem swap_any (A : Option Addr) (m c : Nat) (bs : List Nat) (w : World) (hm : m ≤ 140737488000000) (hb : Byt w w.heap.size A m bs) :
    Calls Tryd.prog 50 #[.slice A m c] w fun e w' => ∃ V, e = .returned V ∧ RowB w' w.heap.size V bs.reverse ∧ Below w.heap.size w w' := by
  have HB := Lib.hid hb
  have hlen := hb.len
  have HL := Lib.hid hlen
  clear hb hlen
  go_enter Tryd.func50, Tryd.ntmps50
  go_wp2
  go_loopw [3, 4] (fun x i wr => ∃ (k : Nat) (V : Value), k ≤ m ∧ x = V ∧ i = .int .i64 ((m : Int) - 1 - k) ∧ RowB wr w.heap.size V (bs.reverse.take k) ∧ Below w.heap.size w wr) (fun _ i _ => (intOf i + 1).toNat)
  case atStart => exact ⟨0, _, Nat.zero_le _, rfl, by simp, RowB.nil _ _, Below.refl _ _⟩
  case round =>
    obtain ⟨k, V, hk, rfl, rfl, hrow, hW⟩ := hrel
    have HROW := Lib.hid hrow
    have HW := Lib.hid hW
    clear hrow hW
    by_cases hlt : k < m
    · obtain ⟨j, hjm⟩ : ∃ j, m = j + k + 1 := ⟨m - 1 - k, by omega⟩
      obtain ⟨b, o, rfl, hbl, hc⟩ := HB.out.at_ (by omega)
      have hj : j < bs.length := by have := HL.out; omega
      have hcell := (HW.out.cell (p := ⟨b, o + j, none⟩) hbl).trans (hc j hj)
      have hx := HB.out.lt bs[j] (List.getElem_mem hj)
      have htk : bs.reverse.take (k + 1) = bs.reverse.take k ++ [bs[j]] := by
        rw [List.take_succ_eq_append_getElem (by rw [List.length_reverse]; have := HL.out; omega)]
        congr 2
        rw [List.getElem_reverse]
        congr 1
        have := HL.out
        have := hjm
        omega
      have HTK := Lib.hid htk
      have hln : (bs.reverse.take k).length ≤ k := List.length_take_le _ _
      have hsl := HW.out.size
      have hidx : ((m : Int) - 1 - (k : Int)) = (j : Int) := by omega
      have hjlt : j < m := by omega
      have HJM := Lib.hid hjm
      clear hc htk hjm
      rw [hidx]
      clear hidx
      generalize bs[j] = xv at *
      have HR2 := Lib.hid (HROW.out.below (below_new _ (.cells (by8 [xv]).toArray 5)))
      have HBY := Lib.hid (Byt.lit wr [xv] (by intro x hx; rw [List.mem_singleton] at hx; omega))
      have HBB := Lib.hid (show w.heap.size ≤ (wr.alloc (.cells (by8 [xv]).toArray 5)).heap.size by rw [size_alloc]; omega)
      have HLL := Lib.hid (show (bs.reverse.take k).length + 1 ≤ 140737488355328 by omega)
      generalize bs.reverse.take k = l0 at *
      go_wp2_with (at_builtin; refine wp_rowb rfl (.tmp 12) (.tmp 17) rfl w.heap.size 1 1 _ l0 [xv] (some ⟨wr.heap.size, 0, none⟩) _ rfl rfl HR2.out HBY.out HLL.out HBB.out ?_; intro V2 w2 hrow2 hb2; refine Hid.out ?_)
      have HR3 := Lib.hid hrow2
      have HW3 := Lib.hid (HW.out.trans ((below_new wr (.cells (by8 [xv]).toArray 5)).mono hsl |>.trans hb2))
      clear hrow2 hb2
      refine go_on ?_
      go_wp2
      go_roundw
      case rel => exact ⟨k + 1, V2, by omega, rfl, by congr 1; have := HJM.out; omega, by rw [HTK.out]; exact HR3.out, HW3.out⟩
      case measure => simp [intOf]
    · obtain rfl : k = m := by omega
      have hrow := HROW.out
      rw [List.take_of_length_le (by rw [List.length_reverse]; have := HL.out; omega)] at hrow
      have HR3 := Lib.hid hrow
      clear hrow
      go_wp2
      go_ret
      exact ⟨_, rfl, HR3.out, HW.out⟩

theorem digs_snoc (n u : Nat) : digs (n + 1) false u = digs n false u ++ [dig u n] := by
  unfold digs
  rw [List.range_succ, List.map_append]
  rfl
theorem digs_rev (n u : Nat) : (digs n false u).reverse = digs n true u := by
  apply List.ext_getElem
  · rw [List.length_reverse, digs_len, digs_len]
  intro j h1 h2
  rw [digs_len] at h2
  rw [List.getElem_reverse]
  simp [digs, pos]

set_option maxHeartbeats 2000000 in
set_option maxRecDepth 100000 in
theorem digits_any (big : Bool) (n u : Nat) (w : World) (hn : n ≤ 8) (hu : (u : Int) ≤ 18446744073709551615) :
    Calls Tryd.prog 43 #[.int .i64 n, .bool big, .int .u64 u] w fun e w' => ∃ V, e = .returned V ∧ RowB w' w.heap.size V (digs n big u) ∧ Below w.heap.size w w' := by
  cases big
  all_goals
    go_enter Tryd.func43, Tryd.ntmps43
    go_wp2
    go_loopw [2, 7, 8] (fun q x i wr => ∃ (k : Nat) (V : Value), k ≤ n ∧ q = .int .u64 ((u / 256 ^ k : Nat) : Int) ∧ x = V ∧ i = .int .i64 k ∧ RowB wr w.heap.size V (digs k false u) ∧ Below w.heap.size w wr) (fun _ _ i _ => n - (intOf i).toNat)
    case atStart => exact ⟨0, _, Nat.zero_le _, by simp, rfl, rfl, RowB.nil _ _, Below.refl _ _⟩
    case round =>
      obtain ⟨k, V, hk, rfl, rfl, rfl, hrow, hW⟩ := hrel
      have HROW := Lib.hid hrow
      have HW := Lib.hid hW
      have hsl := hW.size
      clear hrow hW
      by_cases hlt : k < n
      · have hdl := dig_lt u k
        have hqd : u / 256 ^ k % 256 = dig u k := rfl
        have hqn : u / 256 ^ k / 256 = u / 256 ^ (k + 1) := by rw [Nat.div_div_eq_div_mul, Nat.pow_succ]
        have hqb : u / 256 ^ k ≤ u := Nat.div_le_self _ _
        have HSN := Lib.hid (digs_snoc k u)
        have hln := digs_len k false u
        have HLL := Lib.hid (show (digs k false u).length + 1 ≤ 140737488355328 by omega)
        generalize dig u k = xv at *
        generalize u / 256 ^ k = q at *
        have HQD := Lib.hid hqd
        have HQN := Lib.hid hqn
        have hm : ((q : Int) % 256) = (xv : Int) := by omega
        have HM := Lib.hid hm
        clear hqd hqn hln hm
        generalize digs k false u = l0 at *
        have HR2 := Lib.hid (HROW.out.below (below_new _ (.cells (by8 [xv]).toArray 5)))
        have HBY := Lib.hid (Byt.lit wr [xv] (by intro x hx; rw [List.mem_singleton] at hx; omega))
        have HBB := Lib.hid (show w.heap.size ≤ (wr.alloc (.cells (by8 [xv]).toArray 5)).heap.size by rw [size_alloc]; omega)
        have hm := HM.out
        go_wp2_with (at_builtin; refine wp_rowb rfl (.tmp 14) (.tmp 18) rfl w.heap.size 1 1 _ l0 [xv] (some ⟨wr.heap.size, 0, none⟩) _ rfl rfl HR2.out HBY.out HLL.out HBB.out ?_; intro V2 w2 hrow2 hb2; refine Hid.out ?_)
        have HR3 := Lib.hid hrow2
        have HW3 := Lib.hid (HW.out.trans ((below_new wr (.cells (by8 [xv]).toArray 5)).mono hsl |>.trans hb2))
        clear hrow2 hb2 hm
        refine go_on ?_
        go_wp2
        go_roundw
        case rel => exact ⟨k + 1, V2, by omega, by rw [← HQN.out]; rfl, rfl, by go_num, by rw [HSN.out]; exact HR3.out, HW3.out⟩
        case measure => simp [intOf]; omega
      · obtain rfl : k = n := by omega
        have hln := digs_len k false u
        obtain ⟨A, C, rfl⟩ := own_form HROW.out.own
        have hby := Byt.of_own HROW.out.own HROW.out.lt
        rw [hln] at hby
        have HBY := Lib.hid hby
        have hrw := digs_rev k u
        have HRW := Lib.hid hrw
        clear hby hrw
        first
          | (go_wp2
             go_ret
             exact ⟨_, rfl, HROW.out, HW.out⟩)
          | (rw [hln] at HROW ⊢
             clear hln
             go_wp2_with (go_at_call 50; refine (swap_any A k C (digs k false u) wr (by omega) HBY.out).mono ?_)
             rintro _ w2 ⟨V, rfl, hrow, hb2⟩
             rw [HRW.out] at hrow
             have HR2 := Lib.hid (hrow.up hsl)
             have HW2 := Lib.hid (below_more HW.out hb2)
             clear hrow hb2
             go_wp2
             go_ret
             exact ⟨_, rfl, HR2.out, HW2.out⟩)

set_option maxHeartbeats 2000000 in
set_option maxRecDepth 100000 in
theorem rputBytes_ok (m c k d : Nat) (A X : Option Addr) (bs xs : List Nat) (w : World) (hk : k ≤ 65536) (hm : m ≤ 140737488000000) (hb : Byt w w.heap.size A m bs) (hx : Byt w w.heap.size X k xs) :
    Calls Tryd.prog 44 #[.slice A m c, .slice X k d] w fun e w' => ∃ V, e = .returned (.tuple #[V, .int .i64 0]) ∧ RowB w' w.heap.size V (bs ++ digs 4 true k ++ xs) ∧ Below w.heap.size w w' := by
  have hlb := hb.len
  have HX := Lib.hid hx
  have HBN := Lib.hid (below_new w (.cells (by8 []).toArray 5))
  have HR0 := Lib.hid (RowB.lit w [] (fun x h => absurd h (List.not_mem_nil)) (by simp) (Nat.le_refl w.heap.size))
  have HB := Lib.hid (hb.later HBN.out)
  have HLB := Lib.hid hlb
  have HBB := Lib.hid (HBN.out.size)
  have HLL := Lib.hid (show ([] : List Nat).length + m ≤ 140737488355328 by show 0 + m ≤ _; omega)
  clear hb hx hlb
  go_enter Tryd.func44, Tryd.ntmps44
  go_wp2_with (at_builtin; refine wp_rowb rfl (.tmp 9) (.tmp 10) rfl w.heap.size m c _ [] bs A w.heap.size rfl rfl HR0.out HB.out HLL.out HBB.out ?_; intro V2 w2 hrow2 hb2; refine Hid.out ?_)
  rw [List.nil_append] at hrow2
  have HR2 := Lib.hid hrow2
  have HW2 := Lib.hid (HBN.out.trans hb2)
  clear hrow2 hb2
  refine go_on ?_
  go_wp2_with (go_at_call 43; refine (digits_any true 4 k w2 (by omega) (by omega)).mono ?_)
  rintro _ w3 ⟨V3, rfl, hrow3, hb3⟩
  have HR3 := Lib.hid (HR2.out.below hb3)
  have HW3 := Lib.hid (below_more HW2.out hb3)
  obtain ⟨A3, c3, rfl, hby3⟩ := hrow3.byt
  rw [digs_len] at hby3
  have HB3 := Lib.hid hby3
  have HS3 := Lib.hid HW3.out.size
  have HL3 := Lib.hid (show bs.length + 4 ≤ 140737488355328 by rw [HLB.out]; omega)
  have hd4 := digs_len 4 true k
  clear hrow3 hb3 hby3
  rw [hd4]
  go_wp2_with (at_builtin; refine wp_rowb rfl (.tmp 11) (.tmp 15) rfl w.heap.size 4 c3 V2 bs (digs 4 true k) A3 _ rfl rfl HR3.out HB3.out HL3.out HS3.out ?_; intro V4 w4 hrow4 hb4; refine Hid.out ?_)
  have HR4 := Lib.hid hrow4
  have HW4 := Lib.hid (HW3.out.trans hb4)
  have HX4 := Lib.hid (HX.out.later HW4.out)
  have HS4 := Lib.hid HW4.out.size
  have HL4 := Lib.hid (show (bs ++ digs 4 true k).length + k ≤ 140737488355328 by rw [List.length_append, hd4, HLB.out]; omega)
  clear hrow4 hb4 hd4
  refine go_on ?_
  go_wp2_with (at_builtin; refine wp_rowb rfl (.tmp 16) (.tmp 17) rfl w.heap.size k d V4 (bs ++ digs 4 true k) xs X w.heap.size rfl rfl HR4.out HX4.out HL4.out HS4.out ?_; intro V5 w5 hrow5 hb5; refine Hid.out ?_)
  have HR5 := Lib.hid hrow5
  have HW5 := Lib.hid (HW4.out.trans hb5)
  clear hrow5 hb5
  refine go_on ?_
  go_wp2
  go_ret2
  exact ⟨V5, rfl, HR5.out, HW5.out⟩
end Go.Proofs.YtpajimkebnfneaaDoor.Ty9
