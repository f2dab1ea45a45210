/- The reference's heap in memory; its Ids, Len, Get. -/
import Derived.Test.YtpajimkebnfneaaDoorNo
namespace Go.Proofs.YtpajimkebnfneaaDoor.X5
set_option linter.unusedVariables false
set_option linter.unusedSimpArgs false
open Go.RowKit Go.Maps Wd Ty9

theorem info_parts6 {o : Option TypeInfo} {z : Value} {s b : Nat} (h : o.map (fun i => (i.zero, i.size, i.bytes)) = some (some z, s, b)) : ∃ i, o = some i ∧ i.zero = some z ∧ i.size = s ∧ i.bytes = b := by
  rcases o with _ | i
  · cases h
  · simp at h; exact ⟨i, rfl, h.1, h.2.1, h.2.2⟩
/-! ### rows of numbers that grow -/
def iv (zs : List Int) : List Value := zs.map (.int .i64 ·)
theorem int_info : (Tryd.prog.info? 3).map (fun i => (i.zero, i.size, i.bytes)) = some (some (.int .i64 0), 1, 8) := by kernel_rfl
structure OwI (w : World) (V : Value) (zs : List Int) (wr : World) : Prop where
  own : wr.ownsRow w.heap.size 3 1 V zs.length (iv zs)
  be : Below w.heap.size w wr
theorem OwI.below {w wr w2 : World} {V : Value} {out : List Int} (h : OwI w V out wr) (hb : Below wr.heap.size wr w2) : OwI w V out w2 := by
  refine ⟨h.own.kept ⟨hb.os, hb.tape, hb.output, hb.size, fun k hk _ => hb.block k hk⟩ (?_ : V.ownBlock = none ∨ V.ownBlock ≠ some w2.heap.size), below_more h.be hb⟩
  rcases hv : V.ownBlock with _ | k
  · exact .inl rfl
  · exact .inr (fun e => by injection e with e; have := (h.own.lt k hv).2; have := hb.size; omega)
theorem wp_app1I {ops : Array Oper} {rest : List Oper} {o : Oper} {a : Act} {w : World} {Q : Exit → Act → World → Prop} (hgd : o.guard = none) (s x : Operand)
    (ho : o.op = .call { callee := .builtin .append, args := #[s, x], argTypes := #[34, 34] })
    (w0 : World) (V : Value) (zs : List Int) (p : Int) (g : Nat) (hs : a.eval s = V) (hx : a.eval x = .slice (some ⟨g, 0, none⟩) 1 1) (h : OwI w0 V zs w) (hb : Bx w g 3 #[.int .i64 p]) (hl : (zs.length + 1) * 8 ≤ 140737488355328)
    (hK : ∀ V' w', OwI w0 V' (zs ++ [p]) w' → wpList Tryd.prog ops Q rest (a.put o.dst V') w') :
    wpList Tryd.prog ops Q (o :: rest) a w := by
  obtain ⟨i0, hi0, hz, hs0, hbt⟩ := info_parts6 int_info
  refine wpList_append_own _ hgd s x 34 ho w0.heap.size 3 i0 _ 1 8 Tryd.underlying34 hi0 hz hs0 hbt (by rfl) (by decide) V zs.length (iv zs) hs h.own ⟨g, 0, none⟩ 1 1 [.int .i64 p] hx (by rfl) (World.news_of_block hb) (by simp [Value.oneCell']) (by unfold maxLen; omega) hl h.be.size ?_
  intro V2 w4 hown2 hgr2 _
  refine hK V2 w4 ⟨?_, h.be.grown hgr2 h.be.size (fun k hk => (h.own.lt k hk).1)⟩
  have e : iv (zs ++ [p]) = iv zs ++ [.int .i64 p] := by unfold iv; simp
  rw [List.length_append, e]
  exact hown2

/-! ### rows of slots -/
def scl (vs : List (Bool × Value)) : List Value := vs.flatMap fun x => [.bool x.1, x.2]
theorem scl_app (a b : List (Bool × Value)) : scl (a ++ b) = scl a ++ scl b := by unfold scl; simp
theorem scl_len : ∀ vs : List (Bool × Value), (scl vs).length = vs.length * 2
  | [] => rfl
  | x :: vs => by
    have e : scl (x :: vs) = .bool x.1 :: x.2 :: scl vs := rfl
    rw [e, List.length_cons, List.length_cons, scl_len vs, List.length_cons]; omega
theorem scl_get : ∀ (vs : List (Bool × Value)) (i : Nat) (h : i < vs.length), (scl vs)[i * 2]? = some (.bool vs[i].1) ∧ (scl vs)[i * 2 + 1]? = some vs[i].2
  | [], i, h => absurd h (Nat.not_lt_zero _)
  | x :: vs, 0, _ => ⟨rfl, rfl⟩
  | x :: vs, i + 1, h => by
    have ih := scl_get vs i (Nat.lt_of_succ_lt_succ h)
    have e : scl (x :: vs) = .bool x.1 :: x.2 :: scl vs := rfl
    rw [e, show (i + 1) * 2 = i * 2 + 1 + 1 by omega]
    exact ih
theorem slot_info : (Tryd.prog.info? 76).map (fun i => (i.zero, i.size, i.bytes)) = some (some (.agg #[.bool false, .slice none 0 0]), 2, 32) := by kernel_rfl

/-- The reference's heap with the things M, in the blocks S; its box lies in block rb, its row is V. -/
structure RhR (w : World) (S : Nat → Prop) (rb : Nat) (V : Value) (vs : List (Bool × Value)) (M : List (Option (List Nat))) : Prop where
  box : Bx w rb 50 #[V]
  own : w.ownsRow 0 76 2 V M.length (scl vs)
  len : vs.length = M.length
  sh : S rb
  sv : ∀ g, V.ownBlock = some g → S g ∧ g ≠ rb
  sb : ∀ k, S k → k < w.heap.size
  row : ∀ (i : Nat) (x : List Nat), M[i]? = some (some x) → ∃ A c, vs[i]? = some (true, Value.slice A x.length c) ∧ x.length ≤ c ∧ x.length ≤ 65536 ∧ Byt w w.heap.size A x.length x ∧ ∀ b o, 0 < x.length → A = some ⟨b, o, none⟩ → S b ∧ b ≠ rb ∧ V.ownBlock ≠ some b
  no : ∀ (i : Nat), M[i]? = some none → vs[i]? = some (false, .slice none 0 0)

section
variable {w w' : World} {S : Nat → Prop} {rb : Nat} {V : Value} {vs : List (Bool × Value)} {M : List (Option (List Nat))}
theorem ownsRow_block {base : Nat} {e : TypeId} {size n : Nat} {xs : List Value} (h : w.ownsRow base e size V n xs) (hk : ∀ g, V.ownBlock = some g → w'.heap[g]? = w.heap[g]?) : w'.ownsRow base e size V n xs := by
  refine ⟨h.1, ?_⟩
  rcases h.2 with h | ⟨g, cap, cur, hv, hb, hg, r⟩
  · exact .inl h
  · exact .inr ⟨g, cap, cur, hv, hb, (hk g (by rw [hv]; rfl)).trans hg, r⟩
theorem RhR.keep (h : RhR w S rb V vs M) (hk : ∀ k, S k → w'.heap[k]? = w.heap[k]?) (hs : w.heap.size ≤ w'.heap.size) : RhR w' S rb V vs M := by
  refine ⟨(hk _ h.sh).trans h.box, ownsRow_block h.own (fun g hg => hk g (h.sv g hg).1), h.len, h.sh, h.sv, fun k hk2 => Nat.lt_of_lt_of_le (h.sb k hk2) hs, fun i x hx => ?_, h.no⟩
  obtain ⟨A, c, h1, h2, h3, h4, h5⟩ := h.row i x hx
  refine ⟨A, c, h1, h2, h3, ⟨h4.len, h4.lt, fun hm => ?_⟩, h5⟩
  obtain ⟨b, o, e, hlt, hc⟩ := h4.at_ hm
  exact ⟨b, o, e, Nat.lt_of_lt_of_le hlt hs, fun j hj => (World.cell?_of_block (w := w) (a := ⟨b, o + j, none⟩) (hk b (h5 b o hm e).1)).trans (hc j hj)⟩
theorem RhR.later (h : RhR w S rb V vs M) (hbe : Below w.heap.size w w') : RhR w' S rb V vs M := h.keep (fun k hk => hbe.block k (h.sb k hk)) hbe.size
theorem RhR.form (h : RhR w S rb V vs M) : ∃ A c, V = .slice A M.length c := own_form h.own
/-- One slot. -/
theorem RhR.get (h : RhR w S rb V vs M) {i : Nat} (hi : i < M.length) : ∃ g c, V = .slice (some ⟨g, 0, none⟩) M.length c ∧ g < w.heap.size ∧
    ((M[i]? = some none ∧ w.cell? ⟨g, i * 2, none⟩ = some (.bool false) ∧ w.cell? ⟨g, i * 2 + 1, none⟩ = some (.slice none 0 0)) ∨
     ∃ x A d, M[i]? = some (some x) ∧ w.cell? ⟨g, i * 2, none⟩ = some (.bool true) ∧ w.cell? ⟨g, i * 2 + 1, none⟩ = some (.slice A x.length d) ∧ x.length ≤ d ∧ x.length ≤ 65536 ∧ Byt w w.heap.size A x.length x) := by
  have ho := h.own
  rcases ho.2 with ⟨hv, h1⟩ | ⟨g, cap, cur, hv, hb, hg, hc, _⟩
  · omega
  refine ⟨g, cap, hv, (Array.getElem?_eq_some_iff.1 hg).1, ?_⟩
  have hi2 : i < vs.length := by rw [h.len]; exact hi
  obtain ⟨m1, m2⟩ := scl_get vs i hi2
  have hadd : ∀ j, (⟨g, 0, none⟩ : Addr).add j = ⟨g, 0 + j, none⟩ := fun j => by unfold Addr.add; split <;> simp_all
  subst hv
  have q0 := ho.cells (g := g) rfl _ _ m1
  have q1 := ho.cells (g := g) rfl _ _ m2
  rw [hadd, Nat.zero_add] at q0 q1
  have hvi : vs[i]? = some vs[i] := List.getElem?_eq_getElem hi2
  rcases hm : M[i] with _ | x
  · have hm2 : M[i]? = some none := by rw [List.getElem?_eq_getElem hi, hm]
    have := h.no i hm2
    rw [hvi] at this
    have := Option.some.inj this
    rw [this] at q0 q1
    exact .inl ⟨hm2, q0, q1⟩
  · have hm2 : M[i]? = some (some x) := by rw [List.getElem?_eq_getElem hi, hm]
    obtain ⟨A, c, h1, h2, h3, h4, h5⟩ := h.row i x hm2
    rw [hvi] at h1
    have := Option.some.inj h1
    rw [this] at q0 q1
    exact .inr ⟨x, A, c, hm2, q0, q1, h2, h3, h4⟩
end
theorem idsA_snocS {α : Type} : ∀ (l : List (Option α)) (k : Nat) (v : α), idsA k (l ++ [some v]) = idsA k l ++ [((k + l.length : Nat) : Int)]
  | [], k, v => by simp [idsA]
  | none :: l, k, v => by rw [List.cons_append, idsA, idsA, idsA_snocS l (k + 1) v]; congr 3; simp; omega
  | some _ :: l, k, v => by rw [List.cons_append, idsA, idsA, idsA_snocS l (k + 1) v]; simp; omega
theorem ids_snocN {M : List (Option (List Nat))} {i : Nat} (h : M[i]? = some none) : idsL (M.take (i + 1)) = idsL (M.take i) := by
  have e : M.take (i + 1) = M.take i ++ [none] := by rw [List.take_add_one, h]; rfl
  rw [e]
  exact idsA_snoc _ 0
theorem ids_snocS {M : List (Option (List Nat))} {i : Nat} {x : List Nat} (h : M[i]? = some (some x)) : idsL (M.take (i + 1)) = idsL (M.take i) ++ [(i : Int)] := by
  have hi := (List.getElem?_eq_some_iff.mp h).1
  have hl : (M.take i).length = i := by rw [List.length_take]; omega
  have e : M.take (i + 1) = M.take i ++ [some x] := by rw [List.take_add_one, h]; rfl
  rw [e]
  show idsA 0 (M.take i ++ [some x]) = idsA 0 (M.take i) ++ _
  rw [idsA_snocS, hl, Nat.zero_add]

section
variable {w : World} {S : Nat → Prop} {rb : Nat} {V : Value} {vs : List (Bool × Value)} {M : List (Option (List Nat))}
set_option maxHeartbeats 1000000 in
theorem rids_any (h : RhR w S rb V vs M) (hl : M.length ≤ 60000) :
    Calls Tryd.prog 33 #[.pointer (some ⟨rb, 0, none⟩)] w fun e w' => ∃ U, e = .returned U ∧ w'.ownsRow w.heap.size 3 1 U (cntL M) ((idsL M).map (Value.int .i64)) ∧ Below w.heap.size w w' := by
  have HH := Lib.hid h
  have HL := Lib.hid hl
  obtain ⟨n, hn⟩ : ∃ n, M.length = n := ⟨_, rfl⟩
  have HN := Lib.hid hn
  obtain ⟨A, c, hV⟩ := h.form
  rw [hn] at hV
  subst hV
  clear h hl hn
  go_enter Tryd.func33, Tryd.ntmps33
  go_wp2
  go_loopw [3, 4] (fun v i wr => ∃ (k : Nat), i = .int .i64 k ∧ k ≤ n ∧ OwI w v (idsL (M.take k)) wr) (fun _ i _ => n - (RowKit.intOf i).toNat)
  case atStart => exact ⟨0, rfl, Nat.zero_le _, ⟨World.ownsRow_nil _ _ _ _, Below.refl _ _⟩⟩
  case round =>
    obtain ⟨k, rfl, hk, how⟩ := hrel
    have HOW := Lib.hid how
    have HR := Lib.hid (HH.out.later how.be)
    have c0 : wr.cell? ⟨rb, 0, none⟩ = some (.slice A n c) := HR.out.box.cell 0
    clear how
    by_cases hlt : k < n
    · have hltz : (k : Int) < (n : Int) := by omega
      have hk0 : (0 : Int) ≤ (k : Int) := by omega
      have hk9 : k < 60000 := by have := HL.out; have := HN.out; omega
      obtain ⟨g, cg, hV, hgl, hcs⟩ := HR.out.get (i := k) (by rw [HN.out]; exact hlt)
      rw [HN.out] at hV
      injection hV with e1 _ e2
      subst e1 e2
      rcases hcs with ⟨hm, c1, -⟩ | ⟨x, Ax, d, hm, c1, -⟩
      · have HI := Lib.hid (ids_snocN hm)
        clear hm
        go_wp2
        go_roundw
        case rel => exact ⟨k + 1, by go_num, by omega, by rw [HI.out]; exact HOW.out⟩
        case measure => simp [RowKit.intOf]; omega
      · have HI := Lib.hid (ids_snocS hm)
        have HOE := Lib.hid (HOW.out.below (below_new wr (.cells #[.int .i64 (k : Int)] 3)))
        have HL2 := Lib.hid (show ((idsL (M.take k)).length + 1) * 8 ≤ 140737488355328 by
          have h1 : (idsL (M.take k)).length ≤ 60000 := by
            rw [idsL_len]
            have h2 := cntL_le (M.take k)
            have h3 : (M.take k).length ≤ k := by rw [List.length_take]; omega
            omega
          omega)
        clear hm
        generalize idsL (M.take k) = l0 at *
        go_wp2_with (at_builtin; refine wp_app1I rfl (.tmp 22) (.tmp 24) rfl w _ l0 (k : Int) wr.heap.size rfl rfl HOE.out (Bx.new wr _ _) HL2.out ?_; intro V2 w2 how2; refine Hid.out ?_)
        have HO2 := Lib.hid how2
        clear how2
        refine go_on ?_
        go_wp2
        go_roundw
        case rel => exact ⟨k + 1, by go_num, by omega, by rw [HI.out]; exact HO2.out⟩
        case measure => simp [RowKit.intOf]; omega
    · obtain rfl : k = n := by omega
      have ht : M.take k = M := List.take_of_length_le (by rw [HN.out]; exact Nat.le_refl _)
      rw [ht] at HOW
      have HLN := Lib.hid (idsL_len M)
      clear ht
      go_wp2
      go_ret
      exact ⟨_, rfl, by have h1 := HOW.out.own; rw [HLN.out] at h1; exact h1, HOW.out.be⟩
theorem rlen_any (h : RhR w S rb V vs M) (hl : M.length ≤ 60000) :
    Calls Tryd.prog 32 #[.pointer (some ⟨rb, 0, none⟩)] w fun e w' => e = .returned (.int .i64 (cntL M)) ∧ Below w.heap.size w w' := by
  have HI := Lib.hid (rids_any h hl)
  clear h hl
  go_enter Tryd.func32, Tryd.ntmps32
  go_wp2_with (go_at_call 33; refine HI.out.mono ?_; rintro _ w2 ⟨U, rfl, ho, hb⟩; refine Hid.out ?_)
  obtain ⟨A, c, rfl⟩ := own_form ho
  have HB := Lib.hid hb
  clear ho hb
  refine go_on ?_
  go_wp2
  go_ret
  exact ⟨rfl, HB.out⟩
theorem rget_no (h : RhR w S rb V vs M) (hl : M.length ≤ 60000) {z : Int} (hz : z ∉ idsL M) (hr : -9223372036854775808 ≤ z ∧ z ≤ 9223372036854775807) :
    Calls Tryd.prog 19 #[.pointer (some ⟨rb, 0, none⟩), .int .i64 z] w fun e w' => e = .returned (.tuple #[.slice none 0 0, .int .i64 10]) ∧ w' = w := by
  have c0 : w.cell? ⟨rb, 0, none⟩ = some V := h.box.cell 0
  obtain ⟨A, c, hV⟩ := h.form
  by_cases h0 : z < 0
  · subst hV
    clear h hz hr
    generalize M.length = n at *
    go_enter Tryd.func19, Tryd.ntmps19
    go_wp2
    go_ret2
    exact ⟨rfl, rfl⟩
  · obtain ⟨i, rfl⟩ : ∃ i : Nat, z = (i : Int) := ⟨z.toNat, by omega⟩
    by_cases hi : M.length ≤ i
    · have hiz : (M.length : Int) ≤ (i : Int) := by omega
      have hi0 : ¬ (i : Int) < 0 := by omega
      subst hV
      clear h hz hr h0
      generalize M.length = n at *
      go_enter Tryd.func19, Tryd.ntmps19
      go_wp2
      go_ret2
      exact ⟨rfl, rfl⟩
    · have hiz : ¬ (M.length : Int) ≤ (i : Int) := by omega
      have hi1 : (i : Int) < (M.length : Int) := by omega
      have hi0 : ¬ (i : Int) < 0 := by omega
      have hi2 : (0 : Int) ≤ (i : Int) := by omega
      obtain ⟨g, cg, hV2, hgl, hcs⟩ := h.get (i := i) (by omega)
      subst hV
      injection hV2 with e1 _ e2
      subst e1 e2
      rcases hcs with ⟨hm, c1, -⟩ | ⟨x, Ax, d, hm, -⟩
      · clear h hz hr h0 hm
        generalize M.length = n at *
        go_enter Tryd.func19, Tryd.ntmps19
        go_wp2
        go_ret2
        exact ⟨rfl, rfl⟩
      · exact absurd ((idsL_mem _ _).mpr ⟨by omega, x, by simpa using hm⟩) hz
theorem rget_yes (h : RhR w S rb V vs M) (hl : M.length ≤ 60000) {i : Nat} {x : List Nat} (hx : M[i]? = some (some x)) :
    Calls Tryd.prog 19 #[.pointer (some ⟨rb, 0, none⟩), .int .i64 (i : Int)] w fun e w' => ∃ U, e = .returned (.tuple #[U, .int .i64 0]) ∧ RowB w' w.heap.size U x ∧ Below w.heap.size w w' := by
  have c0 : w.cell? ⟨rb, 0, none⟩ = some V := h.box.cell 0
  have hi := (List.getElem?_eq_some_iff.mp hx).1
  obtain ⟨A, c, hV⟩ := h.form
  have hiz : ¬ (M.length : Int) ≤ (i : Int) := by omega
  have hi1 : (i : Int) < (M.length : Int) := by omega
  have hi0 : ¬ (i : Int) < 0 := by omega
  have hi2 : (0 : Int) ≤ (i : Int) := by omega
  obtain ⟨g, cg, hV2, hgl, hcs⟩ := h.get (i := i) hi
  subst hV
  injection hV2 with e1 _ e2
  subst e1 e2
  rcases hcs with ⟨hm, _⟩ | ⟨x', Ax, d, hm, c1, c2, hd, hk, hy⟩
  · rw [hx] at hm; cases hm
  rw [hx] at hm
  injection hm with hm
  injection hm with hm
  subst hm
  have HBN := Lib.hid (below_new w (.cells (by8 []).toArray 5))
  have HR0 := Lib.hid (RowB.lit w [] (fun x h => absurd h (List.not_mem_nil)) (by simp) (Nat.le_refl w.heap.size))
  have HY := Lib.hid (hy.later HBN.out)
  have HBB := Lib.hid (HBN.out.size)
  have HLL := Lib.hid (show ([] : List Nat).length + x.length ≤ 140737488355328 by show 0 + x.length ≤ _; omega)
  obtain ⟨lx, hlx⟩ : ∃ lx, x.length = lx := ⟨_, rfl⟩
  have k0 : (w.alloc (.cells #[] 5)).cell? ⟨rb, 0, none⟩ = some (.slice (some ⟨g, 0, none⟩) M.length c) := (HBN.out.cell (p := ⟨rb, 0, none⟩) h.box.lt).trans c0
  have k2 : (w.alloc (.cells #[] 5)).cell? ⟨g, i * 2 + 1, none⟩ = some (.slice Ax x.length d) := (HBN.out.cell (p := ⟨g, i * 2 + 1, none⟩) hgl).trans c2
  rw [hlx] at HY HLL c2 k2
  clear h hy hx hlx hd hk
  generalize M.length = n at *
  go_enter Tryd.func19, Tryd.ntmps19
  go_wp2_with (at_builtin; refine wp_rowb rfl (.tmp 28) (.tmp 36) rfl w.heap.size lx d _ [] x Ax w.heap.size rfl rfl HR0.out HY.out HLL.out HBB.out ?_; intro V3 w3 hrow3 hb3; refine Hid.out ?_)
  rw [List.nil_append] at hrow3
  have HR3 := Lib.hid hrow3
  have HW3 := Lib.hid (HBN.out.trans hb3)
  clear hrow3 hb3
  refine go_on ?_
  go_wp2
  go_ret2
  exact ⟨V3, rfl, HR3.out, HW3.out⟩
end
end Go.Proofs.YtpajimkebnfneaaDoor.X5
