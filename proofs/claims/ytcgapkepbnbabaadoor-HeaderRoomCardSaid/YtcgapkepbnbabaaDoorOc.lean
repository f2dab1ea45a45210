/- Appending bytes; octet.PutBytes. -/
import Derived.Test.YtcgapkepbnbabaaDoorOb
import Derived.OwnWalk
namespace Go.Proofs.YtcgapkepbnbabaaDoor.Ty9
set_option linter.unusedVariables false
set_option linter.unusedSimpArgs false
open Go.RowKit Wd

theorem append_none (W : World) (base ty n c : Nat) (V : Value) (xs : List Value) (hown : W.ownsRow base 5 1 V n xs) :
    (Builtin.append_ #[31, 31] ty #[V, .slice none 0 c]).run Tryd.prog W = .ok V W := by
  obtain ⟨i0, hi0, hz0, hz1, hz2⟩ := info_parts byte_info
  rcases hown.2 with ⟨rfl, rfl⟩ | ⟨g, cap, cur, rfl, _, _, hnc, _⟩
  · simp [Builtin.append_, run_underlying Tryd.underlying31, sizeOf, typeInfo, hi0, Builtin.lenOf, Builtin.firstCells]
  · simp [Builtin.append_, run_underlying Tryd.underlying31, sizeOf, typeInfo, hi0, Builtin.lenOf, Builtin.firstCells, hnc, storeCells]

theorem by8_get {xs : List Nat} {j : Nat} {u : Value} (h : (by8 xs)[j]? = some u) : ∃ hj : j < xs.length, u = .int .u8 ((xs[j] : Nat) : Int) := by
  have hj : j < xs.length := by have := (List.getElem?_eq_some_iff.mp h).1; rwa [by8_len] at this
  refine ⟨hj, ?_⟩
  unfold by8 at h
  rw [List.getElem?_map, List.getElem?_eq_getElem hj] at h
  exact (Option.some.inj h).symm

theorem append_bytes (W : World) (base ty n m c : Nat) (V : Value) (bs xs : List Nat) (A : Option Addr) (B : Nat) (hown : W.ownsRow base 5 1 V n (by8 bs)) (hx : Byt W B A m xs) (hl : n + m ≤ 140737488355328) (hb : base ≤ W.heap.size) :
    ∃ V' W', (Builtin.append_ #[31, 31] ty #[V, .slice A m c]).run Tryd.prog W = .ok V' W' ∧ W'.ownsRow base 5 1 V' (n + m) (by8 (bs ++ xs)) ∧ W.grownBy W' V.ownBlock ∧
      (V'.ownBlock = V.ownBlock ∨ V'.ownBlock = some W.heap.size) := by
  obtain ⟨i0, hi0, hz0, hz1, hz2⟩ := info_parts byte_info
  rcases A with _ | ad
  · have hm : m = 0 := by
      rcases Nat.eq_zero_or_pos m with h0 | h0
      · exact h0
      · obtain ⟨b, o, h, _⟩ := hx.at_ h0
        cases h
    subst hm
    obtain rfl : xs = [] := List.eq_nil_of_length_eq_zero hx.len
    exact ⟨V, W, append_none W base ty n c V _ hown, by rw [List.append_nil]; exact hown, World.grownBy.refl _ _, .inl rfl⟩
  · have hc : ∀ j u, (by8 xs)[j]? = some u → W.cell? (ad.add j) = some u := by
      intro j u hu
      obtain ⟨hj, rfl⟩ := by8_get hu
      obtain ⟨b, o, h, _, hc⟩ := hx.at_ (by have := hx.len; omega)
      obtain rfl : ad = ⟨b, o, none⟩ := Option.some.inj h
      exact (congrArg W.cell? (addr_add b o j)).trans (hc j hj)
    obtain ⟨V', W', h1, h2, h3, _, h5⟩ := run_append_own_at (P := Tryd.prog) W base 31 ty 5 i0 _ 1 1 Tryd.underlying31 hi0 hz0 hz1 hz2 rfl (by decide) V n (by8 bs) hown ad m c (by8 xs) (by rw [by8_len, hx.len, Nat.mul_one]) hc (by8_one xs) (by unfold maxLen; omega) (by omega) hb
    exact ⟨V', W', h1, by rw [by8_app]; exact h2, h3, h5⟩

/-- The law of the walk. -/
theorem wp_append_bytes {ops : Array Oper} {rest : List Oper} {o : Oper} {a : Act} {w : World} {Q : Exit → Act → World → Prop} (hgd : o.guard = none) (s x : Operand)
    (ho : o.op = .call { callee := .builtin .append, args := #[s, x], argTypes := #[31, 31] })
    (base n m c : Nat) (V : Value) (bs xs : List Nat) (A : Option Addr) (B : Nat) (hs : a.eval s = V) (hx : a.eval x = .slice A m c) (hown : w.ownsRow base 5 1 V n (by8 bs)) (hb : Byt w B A m xs) (hl : n + m ≤ 140737488355328) (hbase : base ≤ w.heap.size)
    (h : ∀ V' w', w'.ownsRow base 5 1 V' (n + m) (by8 (bs ++ xs)) → w.grownBy w' V.ownBlock → (V'.ownBlock = V.ownBlock ∨ V'.ownBlock = some w.heap.size) → wpList Tryd.prog ops Q rest (a.put o.dst V') w') :
    wpList Tryd.prog ops Q (o :: rest) a w := by
  refine wpList_plain hgd fun K hK => ?_
  obtain ⟨V', w', hr, h2, h3, h4⟩ := append_bytes w base o.type n m c V bs xs A B hown hb hl hbase
  unfold Oper.wp execOp
  simp only [ho, resolve, invoke, builtin, Sem.run_bind, Sem.run_pure, Result.andThen_ok, List.map_toArray, List.map_cons, List.map_nil, hs, hx, hr]
  exact hK _ _ (h V' w' h2 h3 h4)

set_option maxHeartbeats 2000000 in
set_option maxRecDepth 100000 in
theorem putBytes_ok (m c k d : Nat) (A X : Option Addr) (bs xs : List Nat) (w : World) (hk : k ≤ 65536) (hm : m ≤ 140737488000000) (hb : Byt w w.heap.size A m bs) (hx : Byt w w.heap.size X k xs) :
    Calls Tryd.prog 50 #[.slice A m c, .slice X k d] w fun e w' => ∃ V, e = .returned (.tuple #[V, .int .i64 0]) ∧ w'.ownsRow w.heap.size 5 1 V (m + 4 + k) (by8 (bs ++ digs 4 true k ++ xs)) ∧ Below w.heap.size w w' := by
  have HB := Lib.hid hb
  have HX := Lib.hid hx
  clear hb hx
  go_enter Tryd.func50, Tryd.ntmps50
  go_wp2_with (go_at_call 49; refine (put_ok true 4 k m c A bs w (by omega) (by omega) (by omega) (by omega) HB.out).mono ?_)
  rintro _ w2 ⟨V, rfl, hown, hb2⟩
  have HX2 := Lib.hid (HX.out.later hb2)
  have HW2 := Lib.hid hb2
  have HO := Lib.hid hown
  have hs2 := hb2.size
  obtain ⟨A2, C2, rfl⟩ := own_form hown
  clear hb2 hown
  go_wp2_with (at_builtin; refine wp_append_bytes rfl (.tmp 19) (.tmp 20) rfl w.heap.size (m + 4) k d (.slice A2 (m + 4) C2) (bs ++ digs 4 true k) xs X w.heap.size rfl rfl HO.out HX2.out (by omega) hs2 ?_; intro V3 w3 hown3 hg3 hat3)
  have HW3 := Lib.hid (HW2.out.grown hg3 hs2 (fun j hj => (HO.out.lt j hj).1))
  have HO3 := Lib.hid hown3
  clear hg3 hown3 hat3
  go_ret2
  exact ⟨V3, rfl, HO3.out, HW3.out⟩
end Go.Proofs.YtcgapkepbnbabaaDoor.Ty9
