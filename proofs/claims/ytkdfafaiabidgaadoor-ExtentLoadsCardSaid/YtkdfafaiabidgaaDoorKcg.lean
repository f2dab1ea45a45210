/- extent.Bytes. -/
import Derived.Test.YtkdfafaiabidgaaDoorKcd
import Derived.Test.YtkdfafaiabidgaaDoorKk
import Derived.Test.YtkdfafaiabidgaaDoorKj
namespace Go.Proofs.YtkdfafaiabidgaaDoor.X5
set_option linter.unusedVariables false
set_option linter.unusedSimpArgs false
open Go.RowKit Wd Ty9

/-- The numbers' bytes. -/
def numB (zs : List Int) : List Nat := zs.flatMap fun z => digs 4 true z.toNat
def extN (xs : List Xt) : List Int := xs.flatMap fun x => [x.1, x.2]
def bytesL (xs : List Xt) : List Nat := numB ((xs.length : Int) :: extN xs)
theorem numB_len (zs : List Int) : (numB zs).length = zs.length * 4 := by
  induction zs with
  | nil => rfl
  | cons z zs ih => unfold numB at *; rw [List.flatMap_cons, List.length_append, ih, digs_len, List.length_cons]; omega
theorem numB_snoc (zs : List Int) (z : Int) : numB (zs ++ [z]) = numB zs ++ digs 4 true z.toNat := by unfold numB; simp
theorem numB_lt (zs : List Int) : ∀ x ∈ numB zs, x < 256 := by
  intro x hx
  unfold numB at hx
  obtain ⟨z, _, h⟩ := List.mem_flatMap.mp hx
  exact digs_lt _ _ _ x h
theorem extN_len (xs : List Xt) : (extN xs).length = xs.length * 2 := by
  induction xs with
  | nil => rfl
  | cons x xs ih => unfold extN at *; rw [List.flatMap_cons, List.length_append, ih, List.length_cons]; simp; omega
theorem extN_snoc (xs : List Xt) (x : Xt) : extN (xs ++ [x]) = extN xs ++ [x.1, x.2] := by unfold extN; simp
theorem bytesL_len (xs : List Xt) : (bytesL xs).length = xs.length * 8 + 4 := by unfold bytesL; rw [numB_len, List.length_cons, extN_len]; omega
def IsBytes (xs : List Xt) (e : Int) (out : List Nat) : Prop := (¬ goodP xs 4194304 ∧ e = 2 ∧ out = []) ∨ (goodP xs 4194304 ∧ e = 0 ∧ out = sealL (bytesL xs))
theorem IsBytes.uniq {xs : List Xt} {e1 e2 : Int} {o1 o2 : List Nat} (h1 : IsBytes xs e1 o1) (h2 : IsBytes xs e2 o2) : e1 = e2 ∧ o1 = o2 := by
  rcases h1 with ⟨a, p, q⟩ | ⟨a, p, q⟩ <;> rcases h2 with ⟨c, r, s⟩ | ⟨c, r, s⟩
  · exact ⟨p.trans r.symm, q.trans s.symm⟩
  · exact absurd c a
  · exact absurd a c
  · exact ⟨p.trans r.symm, q.trans s.symm⟩

/-- Rows of integers. -/
def iv (zs : List Int) : List Value := zs.map (.int .i64 ·)
theorem int_info : (Tryd.prog.info? 3).map (fun i => (i.zero, i.size, i.bytes)) = some (some (.int .i64 0), 1, 8) := by kernel_rfl
structure OwI (w : World) (V : Value) (zs : List Int) (wr : World) : Prop where
  own : wr.ownsRow w.heap.size 3 1 V zs.length (iv zs)
  be : Below w.heap.size w wr
theorem OwI.below {w wr w2 : World} {V : Value} {out : List Int} (h : OwI w V out wr) (hb : Below wr.heap.size wr w2) : OwI w V out w2 := by
  refine ⟨h.own.kept ⟨hb.os, hb.tape, hb.output, hb.size, fun k hk _ => hb.block k hk⟩ (?_ : V.ownBlock = none ∨ V.ownBlock ≠ some w2.heap.size), below_more h.be hb⟩
  rcases hv : V.ownBlock with _ | k
  · exact .inl rfl
  · exact .inr (fun e => by injection e with e; have := (h.own.lt k hv).2; have := hb.size; omega)
theorem OwI.cell {w wr : World} {g n cap : Nat} {zs : List Int} (h : OwI w (.slice (some ⟨g, 0, none⟩) n cap) zs wr) {j : Nat} (hj : j < zs.length) : wr.cell? ⟨g, j, none⟩ = some (.int .i64 zs[j]) := by
  have := h.own.cells (g := g) rfl j (.int .i64 zs[j]) (by unfold iv; simp [hj])
  have hadd : (⟨g, 0, none⟩ : Addr).add j = ⟨g, 0 + j, none⟩ := by unfold Addr.add; split <;> simp_all
  rw [hadd, Nat.zero_add] at this
  exact this
/-- Two integers more. -/
theorem wp_appI {ops : Array Oper} {rest : List Oper} {o : Oper} {a : Act} {w : World} {Q : Exit → Act → World → Prop} (hgd : o.guard = none) (s x : Operand)
    (ho : o.op = .call { callee := .builtin .append, args := #[s, x], argTypes := #[48, 48] })
    (w0 : World) (V : Value) (zs : List Int) (p q : Int) (g : Nat) (hs : a.eval s = V) (hx : a.eval x = .slice (some ⟨g, 0, none⟩) 2 2) (h : OwI w0 V zs w) (hb : Bx w g 3 #[.int .i64 p, .int .i64 q]) (hl : (zs.length + 2) * 8 ≤ 140737488355328)
    (hK : ∀ V' w', OwI w0 V' (zs ++ [p, q]) w' → w.grownBy w' V.ownBlock → wpList Tryd.prog ops Q rest (a.put o.dst V') w') :
    wpList Tryd.prog ops Q (o :: rest) a w := by
  obtain ⟨i0, hi0, hz, hs0, hbt⟩ := info_parts int_info
  refine wpList_append_own _ hgd s x 48 ho w0.heap.size 3 i0 _ 1 8 Tryd.underlying48 hi0 hz hs0 hbt (by rfl) (by decide) V zs.length (iv zs) hs h.own ⟨g, 0, none⟩ 2 2 [.int .i64 p, .int .i64 q] hx (by rfl) (World.news_of_block hb) (by simp [Value.oneCell']) (by unfold maxLen; omega) hl h.be.size ?_
  intro V2 w4 hown2 hgr2 _
  refine hK V2 w4 ⟨?_, h.be.grown hgr2 h.be.size (fun k hk => (h.own.lt k hk).1)⟩ hgr2
  have e : iv (zs ++ [p, q]) = iv zs ++ [.int .i64 p, .int .i64 q] := by unfold iv; simp
  rw [List.length_append, e]
  exact hown2

set_option maxHeartbeats 4000000 in
set_option maxRecDepth 100000 in
theorem bytes_any (A : Option Addr) (n C lo hi : Nat) (xs : List Xt) (w : World) (hn : n ≤ 140737488355328) (h : Ex w lo hi A n xs) (hhi : hi ≤ w.heap.size) (hG : Gs w) :
    Calls Tryd.prog 8 #[.slice A n C] w fun e w' => ∃ V z out, e = .returned (.tuple #[V, .int .i64 z]) ∧ IsBytes xs z out ∧ RowB w' w.heap.size V out ∧ Below w.heap.size w w' := by
  have hl := h.len
  have HX := Lib.hid h
  have HG := Lib.hid hG
  have HGD := Lib.hid (good_any A n C lo hi xs 4194304 w hn h hhi)
  clear h hG
  by_cases hg : goodP xs 4194304
  · have HGO := Lib.hid hg
    have hnb : n ≤ 65536 := by have := hg.2.2.1; omega
    have HMAY := Lib.hid ((goodP_iff xs 4194304).mp hg).2.2.2.2
    clear hg
    go_enter Tryd.func8, Tryd.ntmps8
    go_wp2_with (go_at_call 15; refine HGD.out.mono ?_; rintro _ w1 ⟨he, hb⟩; rw [decide_eq_true HGO.out] at he; subst he; refine Hid.out ?_)
    have HB1 := Lib.hid hb
    have HO0 := Lib.hid (show OwI w1 (.slice (some ⟨w1.heap.size, 0, none⟩) 1 1) [(n : Int)] (w1.alloc (.cells #[.int .i64 (n : Int)] 3)) from
      ⟨World.ownsRow_lit w1 #[.int .i64 (n : Int)] 1 (Nat.le_refl _) (by unfold maxLen; omega) rfl, below_new w1 _⟩)
    clear hb HGD
    refine go_on ?_
    go_wp2
    go_loopw [4, 18] (fun v i wr => ∃ (k : Nat), i = .int .i64 k ∧ k ≤ n ∧ OwI w1 v ((n : Int) :: extN (xs.take k)) wr) (fun _ i _ => n - (intOf i).toNat)
    case atStart => exact ⟨0, rfl, Nat.zero_le _, HO0.out⟩
    case round =>
      obtain ⟨k, rfl, hk, how⟩ := hrel
      have hol : ((n : Int) :: extN (xs.take k)).length = k * 2 + 1 := by rw [List.length_cons, extN_len, List.length_take]; omega
      obtain ⟨g, cap, hV, hg1, hg2⟩ := how.own.form (by rw [hol]; omega)
      rw [hol] at hV
      subst hV
      have HOW := Lib.hid how
      have HOL := Lib.hid hol
      clear how hol
      by_cases hlt : k < n
      · have hltz : (k : Int) < (n : Int) := by omega
        obtain ⟨b, o, rfl, hb1, hb2, -⟩ := HX.out.at_ (by omega)
        obtain ⟨c0, c1⟩ := HX.out.get rfl (i := k) (by omega)
        have hbw : b < w.heap.size := Nat.lt_of_lt_of_le hb2 hhi
        have HBR := Lib.hid (below_more HB1.out HOW.out.be)
        rw [← HBR.out.cell (p := ⟨b, o + k * 2, none⟩) hbw] at c0
        rw [← HBR.out.cell (p := ⟨b, o + k * 2 + 1, none⟩) hbw] at c1
        have HTK := Lib.hid (show extN (xs.take (k + 1)) = extN (xs.take k) ++ [xs[k].1, xs[k].2] by rw [List.take_add_one, List.getElem?_eq_getElem (by omega), Option.toList_some, extN_snoc])
        generalize xs[k] = x at c0 c1 HTK
        have HL2 := Lib.hid (show (((n : Int) :: extN (xs.take k)).length + 2) * 8 ≤ 140737488355328 by rw [HOL.out]; omega)
        have HOE := Lib.hid ((HOW.out.below (below_new wr (.cells #[.int .i64 x.1, .int .i64 x.2] 45))).below (below_new _ (.cells #[.int .i64 x.1, .int .i64 x.2] 3)))
        go_wp2_with (at_builtin; refine wp_appI rfl (.tmp 22) (.tmp 27) rfl w1 _ ((n : Int) :: extN (xs.take k)) x.1 x.2 (wr.heap.size + 1) rfl rfl HOE.out (Bx.new2 wr _ _ _) HL2.out ?_; intro V5 w5 how5 hgr5; refine Hid.out ?_)
        have HO5 := Lib.hid how5
        clear how5 hgr5
        refine go_on ?_
        go_wp2
        go_roundw
        case rel => exact ⟨k + 1, by go_num, by omega, by rw [HTK.out]; exact HO5.out⟩
        case measure => simp [intOf]; omega
      · obtain rfl : k = n := by omega
        have HOF := Lib.hid (show OwI w1 (.slice (some ⟨g, 0, none⟩) (k * 2 + 1) cap) ((k : Int) :: extN xs) wr by have h1 := HOW.out; rwa [List.take_of_length_le (by omega)] at h1)
        obtain ⟨zs, hzs⟩ : ∃ zs, (k : Int) :: extN xs = zs := ⟨_, rfl⟩
        have hzb : ∀ z ∈ zs, 0 ≤ z ∧ z ≤ 4194304 := by
          intro z hz
          rw [← hzs] at hz
          rcases List.mem_cons.mp hz with rfl | hz
          · omega
          · unfold extN at hz
            obtain ⟨x, hx, hz⟩ := List.mem_flatMap.mp hz
            have hm := HMAY.out x hx
            unfold mayP at hm
            simp at hz
            rcases hz with rfl | rfl <;> omega
        have hzl : zs.length = k * 2 + 1 := by rw [← hzs, List.length_cons, extN_len, hl]
        have HBL := Lib.hid (show numB zs = bytesL xs by unfold bytesL; rw [hl, hzs])
        rw [hzs] at HOF
        have HBR := Lib.hid (below_more HB1.out HOF.out.be)
        clear HOW HOL hzs
        generalize hN : k * 2 + 1 = N at *
        have hNb : N ≤ 131073 := by omega
        have HZB := Lib.hid hzb
        clear hzb hN
        go_wp2
        generalize wr = wq at *
        go_loopw [7, 32] (fun v i wr => ∃ (j : Nat), i = .int .i64 j ∧ j ≤ N ∧ RowB wr wq.heap.size v (numB (zs.take j)) ∧ Below wq.heap.size wq wr) (fun _ i _ => N - (intOf i).toNat)
        case atStart => exact ⟨0, rfl, Nat.zero_le _, RowB.nil _ _, Below.refl _ _⟩
        case round =>
          obtain ⟨j, rfl, hj, hrow, hbe⟩ := hrel
          have HBE := Lib.hid hbe
          obtain ⟨A4, c4, hV, hby⟩ := hrow.byt
          have hnl : (numB (zs.take j)).length = j * 4 := by rw [numB_len, List.length_take]; omega
          rw [hnl] at hV hby
          subst hV
          have HRW := Lib.hid hrow
          have HBY := Lib.hid hby
          clear hrow hby hbe
          by_cases hlt2 : j < N
          · have hltz : (j : Int) < (N : Int) := by omega
            have hjz : j < zs.length := by omega
            have c0 := (HBE.out.cell (p := ⟨g, j, none⟩) hg2).trans (HOF.out.cell hjz)
            have hzz := HZB.out zs[j] (List.getElem_mem hjz)
            have HTK := Lib.hid (show numB (zs.take (j + 1)) = numB (zs.take j) ++ digs 4 true zs[j].toNat by rw [List.take_add_one, List.getElem?_eq_getElem hjz, Option.toList_some, numB_snoc])
            generalize zs[j] = z at c0 hzz HTK
            obtain ⟨u, hu⟩ : ∃ u : Nat, (u : Int) = z := ⟨z.toNat, by omega⟩
            subst hu
            rw [Int.toNat_natCast] at HTK
            have q0 : IntKind.u64.wrap (u : Int) = (u : Int) := by simp [IntKind.wrap, IntKind.bits, IntKind.signed]; omega
            have HP := Lib.hid (put_ok true 4 u (j * 4) c4 A4 (numB (zs.take j)) wr (by omega) (by omega) (by omega) (by omega) HBY.out)
            clear hjz
            generalize hj4 : j * 4 = q4 at *
            go_wp2_with (go_at_call 18; refine HP.out.mono ?_; rintro _ w5 ⟨V5, rfl, hown, hb5⟩; refine Hid.out ?_)
            rw [← HTK.out, show q4 + 4 = (numB (zs.take (j + 1))).length by rw [numB_len, List.length_take]; omega] at hown
            have HR5 := Lib.hid (show RowB w5 wq.heap.size V5 (numB (zs.take (j + 1))) from ⟨own_base hown HBE.out.size, numB_lt _⟩)
            have HB5 := Lib.hid (below_more HBE.out hb5)
            clear hown hb5 HP
            refine go_on ?_
            go_wp2
            go_roundw
            case rel => exact ⟨j + 1, by go_num, by omega, HR5.out, HB5.out⟩
            case measure => simp [intOf]; omega
          · obtain rfl : j = N := by omega
            have HBF := Lib.hid (show Byt wr wr.heap.size A4 (j * 4) (bytesL xs) by have h1 := HBY.out; rwa [List.take_of_length_le (by omega), HBL.out] at h1)
            have HB6 := Lib.hid (below_more HBR.out HBE.out)
            have HSE := Lib.hid (seal_any A4 (j * 4) c4 (bytesL xs) wr (by omega) HBF.out (HG.out.later HB6.out (Nat.le_refl _)))
            clear hnl HRW HBY
            generalize j * 4 = q4 at *
            go_wp2_with (go_at_call 19; refine HSE.out.mono ?_; rintro _ w7 ⟨V7, rfl, hrow7, hb7⟩; refine Hid.out ?_)
            have HR7 := Lib.hid (hrow7.up HB6.out.size)
            have HB7 := Lib.hid (below_more HB6.out hb7)
            clear hrow7 hb7 HSE
            refine go_on ?_
            go_wp2
            go_ret2
            first | exact ⟨V7, 0, _, rfl, .inr ⟨HGO.out, rfl, rfl⟩, HR7.out, HB7.out⟩ | exact ⟨V7, 0, rfl, _, .inr ⟨HGO.out, rfl, rfl⟩, HR7.out, HB7.out⟩
  · have HGO := Lib.hid hg
    clear hg
    go_enter Tryd.func8, Tryd.ntmps8
    go_wp2_with (go_at_call 15; refine HGD.out.mono ?_; rintro _ w1 ⟨he, hb⟩; rw [decide_eq_false HGO.out] at he; subst he; have HB1 := Lib.hid hb; clear hb)
    go_ret2
    first | exact ⟨_, 2, [], rfl, .inl ⟨HGO.out, rfl, rfl⟩, RowB.nil _ _, HB1.out⟩ | exact ⟨_, 2, rfl, [], .inl ⟨HGO.out, rfl, rfl⟩, RowB.nil _ _, HB1.out⟩
end Go.Proofs.YtkdfafaiabidgaaDoor.X5
