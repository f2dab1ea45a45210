/- A row of messages whose bytes are written over; the law HeaderLoads. -/
import Derived.Test.YtcgapkepbnbabaaDoorQk
import Derived.Test.YtcgapkepbnbabaaDoorLu
import Derived.Test.YtcgapkepbnbabaaDoorLo
namespace Go.Proofs.YtcgapkepbnbabaaDoor.X5
set_option linter.unusedVariables false
set_option linter.unusedSimpArgs false
open Go.RowKit Wd Ty9

/-- Of a message whose bytes lie in block g, byte q is turned. -/
def turnAt (g q v : Nat) (y : Int × Value) (x : Mg) : Mg := if y.2.ownBlock = some g then (x.1, x.2.set q v) else x
theorem turnAt_len (g q v : Nat) (y : Int × Value) (x : Mg) : (turnAt g q v y x).1 = x.1 ∧ (turnAt g q v y x).2.length = x.2.length := by
  unfold turnAt; split
  · exact ⟨rfl, List.length_set ..⟩
  · exact ⟨rfl, rfl⟩
theorem On.open_ {e : TypeId} {w wr : World} {A : Option Addr} {n c : Nat} {out : List Mg} (h : On e w (.slice A n c) out wr) {i : Nat} {x : Mg} (hx : out[i]? = some x) :
    ∃ b ci Ai, A = some ⟨b, 0, none⟩ ∧ wr.cell? ⟨b, i * 2, none⟩ = some (.int .i64 x.1) ∧ wr.cell? ⟨b, i * 2 + 1, none⟩ = some (.slice Ai x.2.length ci) ∧ x.2.length ≤ ci ∧ x.2.length ≤ 140737488355328 ∧
      RowB wr w.heap.size (.slice Ai x.2.length ci) x.2 ∧ ∀ g, Ai = some ⟨g, 0, none⟩ → ∀ q v : Nat, v < 256 → ∃ out' : List Mg, out'.length = out.length ∧ (∀ (j : Nat) (y : Mg), out[j]? = some y → ∃ y', out'[j]? = some y' ∧ y'.2.length = y.2.length) ∧ On e w (.slice A n c) out' (wr.setCell ⟨g, q, none⟩ (.int .u8 (v : Int))) := by
  obtain ⟨vs, ho, hl, hel⟩ := h.ex
  obtain ⟨hi, hxe⟩ := List.getElem?_eq_some_iff.mp hx
  rcases ho.2 with ⟨hv, h1⟩ | ⟨b, cap, cur, hv, hb, hg, hc, _⟩
  · omega
  · injection hv with e1 e2 e3
    subst e1
    have hi2 : i < vs.length := by rw [hl]; exact hi
    obtain ⟨m1, m2⟩ := mcl_get vs i hi2
    obtain ⟨h1, ⟨Ai, ci, h2, h2c⟩, h3, h4, h5⟩ := hel i vs[i] x (List.getElem?_eq_getElem _) hx
    have hadd : ∀ j, (⟨b, 0, none⟩ : Addr).add j = ⟨b, j, none⟩ := fun j => by unfold Addr.add; split <;> simp_all
    have q0 := ho.cells (g := b) rfl _ _ m1
    have q1 := ho.cells (g := b) rfl _ _ m2
    rw [hadd] at q0 q1
    rw [h1] at q0
    rw [h2] at q1 h3 h5
    refine ⟨b, ci, Ai, rfl, q0, q1, h2c, h4, h3, fun g hAi q v hv2 => ?_⟩
    subst hAi
    have hbg : b ≠ g := fun e => h5 g rfl (by rw [← e]; rfl)
    have hgr : wr.grownBy (wr.setCell ⟨g, q, none⟩ (.int .u8 (v : Int))) (some g) := ⟨rfl, rfl, rfl, by simp [World.setCell], fun k hk hk2 => Below.heap_setCell _ _ _ _ (fun e => hk2 (by rw [e]))⟩
    have hg0 : w.heap.size ≤ g := (h3.own.lt g rfl).1
    refine ⟨List.zipWith (turnAt g q v) vs out, by simp [hl], fun j y hy => ?_, ⟨⟨vs, ?_, by simp [hl], fun i' v' z hv' hz => ?_⟩, h.be.grown hgr h.be.size (fun k hk => by obtain rfl := Option.some.inj hk; exact hg0)⟩⟩
    · have hj : j < vs.length := by rw [hl]; exact (List.getElem?_eq_some_iff.mp hy).1
      refine ⟨turnAt g q v vs[j] y, ?_, (turnAt_len ..).2⟩
      rw [List.getElem?_zipWith, List.getElem?_eq_getElem hj, hy]
    · rw [List.length_zipWith, hl, Nat.min_self]
      exact ho.kept hgr (.inr (fun e => hbg (Option.some.inj e)))
    · rw [List.getElem?_zipWith, hv'] at hz
      rcases hy : out[i']? with _ | y
      · rw [hy] at hz; simp at hz
      rw [hy] at hz
      simp only [Option.some.injEq] at hz
      subst hz
      obtain ⟨k1, ⟨A2, c2, k2, k2c⟩, k3, k4, k5⟩ := hel i' v' y hv' hy
      obtain ⟨t1, t2⟩ := turnAt_len g q v v' y
      refine ⟨k1.trans t1.symm, ⟨A2, c2, by rw [t2]; exact k2, by rw [t2]; exact k2c⟩, ?_, by rw [t2]; exact k4, k5⟩
      unfold turnAt
      split
      · rename_i hown
        rw [k2] at k3 hown
        rcases k3.own.2 with ⟨hv0, _⟩ | ⟨g', cap', cur', hv0, _⟩
        · injection hv0 with f1 f2 f3
          subst f1
          cases hown
        · injection hv0 with f1 f2 f3
          subst f1
          obtain rfl : g' = g := Option.some.inj hown
          obtain ⟨s1, _⟩ := k3.own.stored q (.int .u8 (v : Int))
          refine ⟨?_, ?_⟩
          · simp only
            rw [k2, List.length_set, by8_set]; exact s1
          · intro z hz
            rcases List.mem_or_eq_of_mem_set hz with hz | rfl
            · exact k3.lt z hz
            · exact hv2
      · rename_i hown
        refine rowb_grown k3 hgr ?_
        rcases hu : v'.2.ownBlock with _ | k
        · exact .inl rfl
        · exact .inr (fun e => hown (by rw [hu, e]))
theorem strOf_app (a b : List Nat) : strOf (a ++ b) = strOf a ++ strOf b := by
  apply ByteArray.ext
  simp [strOf]
abbrev W4i (w : World) (a s : Int) : World := (((w.alloc (.cells #[.int .i64 a, .int .i64 s] 49)).alloc (.cells #[.slice none 0 0] 22)).alloc (.cells #[.slice none 0 0] 34)).alloc (.cells #[.int .i64 0] 25)
theorem w4i_facts (w : World) (a s : Int) : (W4i w a s).heap.size = w.heap.size + 4 ∧ Below w.heap.size w (W4i w a s) ∧ Bx (W4i w a s) w.heap.size 49 #[.int .i64 a, .int .i64 s] ∧ Bx (W4i w a s) (w.heap.size + 1) 22 #[.slice none 0 0] ∧ Bx (W4i w a s) (w.heap.size + 2) 34 #[.slice none 0 0] ∧ Bx (W4i w a s) (w.heap.size + 3) 25 #[.int .i64 0] := by
  have h1 : ∀ (v : World) (o : Obj), Below v.heap.size v (v.alloc o) := below_new
  refine ⟨by simp, below_more (below_more (below_more (h1 _ _) (h1 _ _)) (h1 _ _)) (h1 _ _), ?_, ?_, ?_, ?_⟩
  · exact (((Bx.new w _ _).later (h1 _ _) (by simp)).later (h1 _ _) (by simp only [size_alloc]; omega)).later (h1 _ _) (by simp only [size_alloc]; omega)
  · exact (((Bx.new2 w _ _ _).later (h1 _ _) (by simp only [size_alloc]; omega)).later (h1 _ _) (by simp only [size_alloc]; omega))
  · have := (Bx.new2 (w.alloc (.cells #[.int .i64 a, .int .i64 s] 49)) (.cells #[.slice none 0 0] 22) 34 #[.slice none 0 0])
    rw [size_alloc] at this
    exact this.later (h1 _ _) (by simp only [size_alloc]; omega)
  · have := (Bx.new2 ((w.alloc (.cells #[.int .i64 a, .int .i64 s] 49)).alloc (.cells #[.slice none 0 0] 22)) (.cells #[.slice none 0 0] 34) 25 #[.int .i64 0])
    rw [size_alloc, size_alloc] at this
    exact this

set_option maxHeartbeats 1000000 in
set_option maxRecDepth 100000 in
theorem load8_no (A : Option Addr) (m c : Nat) (a s : Int) (bs : List Nat) (w : World) (hw : ¬ wideP (a, s)) :
    Calls Tryd.prog 21 #[.slice A m c, .agg #[.int .i64 a, .int .i64 s]] w fun e w' => LdP bs (a, s) w e w' := by
  obtain ⟨hw0, hw1, hw3, hw4, hw5, hw6⟩ := w4i_facts w a s
  have HW1 := Lib.hid hw1
  have HWI := Lib.hid (wide_any (a, s) (W4i w a s))
  have HX0 := Lib.hid (And.intro hw3 (And.intro hw4 (And.intro hw5 hw6)))
  clear hw0 hw1 hw3 hw4 hw5 hw6
  rw [decide_eq_false hw] at HWI
  have HNO := Lib.hid (show IsLoad8 bs (a, s) 2 [] [] from .inl ⟨hw, rfl, rfl, rfl⟩)
  clear hw
  go_enter_defers Tryd.func21, Tryd.ntmps21
  go_wp2_with (go_at_call 27; refine HWI.out.mono ?_; rintro _ w1 ⟨rfl, hb1⟩; refine Hid.out ?_)
  have HB1 := Lib.hid (below_more HW1.out hb1)
  obtain ⟨q3, q4, q5, q6⟩ := HX0.out
  have e4 := q4.later hb1 q4.lt
  have e5 := q5.later hb1 q5.lt
  have e6 := q6.later hb1 q6.lt
  have c4 := e4.cell 0
  have f4 := e4.frozen 0
  have b5 := bx_set (k := w.heap.size + 1) (i := 0) (u := .slice none 0 0) e5 (by omega)
  have b6 := bx_set (k := w.heap.size + 1 + 1) (i := 0) (u := .slice none 0 0) (bx_set (k := w.heap.size + 1) (i := 0) (u := .slice none 0 0) e6 (by omega)) (by omega)
  have c5 := b5.cell 0
  have f5 := b5.frozen 0
  have c6 := b6.cell 0
  have f6 := b6.frozen 0
  have v4 := (bx_set (k := w.heap.size + 1 + 1 + 1) (i := 0) (u := .int .i64 2) (bx_set (k := w.heap.size + 1 + 1) (i := 0) (u := .slice none 0 0) (e4.set_ 0 (.slice none 0 0)) (by omega)) (by omega)).cell 0
  have v5 := (bx_set (k := w.heap.size + 1 + 1 + 1) (i := 0) (u := .int .i64 2) (b5.set_ 0 (.slice none 0 0)) (by omega)).cell 0
  have v6 := (b6.set_ 0 (.int .i64 2)).cell 0
  have HBF := Lib.hid (((HB1.out.setCell (p := ⟨w.heap.size + 1, 0, none⟩) (by show w.heap.size ≤ w.heap.size + 1; omega) (.slice none 0 0)).setCell (p := ⟨w.heap.size + 1 + 1, 0, none⟩) (by show w.heap.size ≤ w.heap.size + 1 + 1; omega) (.slice none 0 0)).setCell (p := ⟨w.heap.size + 1 + 1 + 1, 0, none⟩) (by show w.heap.size ≤ w.heap.size + 1 + 1 + 1; omega) (.int .i64 2))
  clear hb1 q3 q4 q5 q6 e4 e5 e6 b5 b6
  refine go_on ?_
  go_wp2
  refine ⟨.tuple #[.slice none 0 0, .slice none 0 0, .int .i64 2], ?_, LdP.no HNO.out HBF.out⟩
  simp [results, Tryd.results21, go_sem, v4, v5, v6]
theorem load8_all (A : Option Addr) (m c : Nat) (a s : Int) (bs : List Nat) (w : World) (hm : m ≤ 4194304) (hc : m ≤ c) (hb : Byt w w.heap.size A m bs) (hG : Gs w) :
    Calls Tryd.prog 21 #[.slice A m c, .agg #[.int .i64 a, .int .i64 s]] w fun e w' => LdP bs (a, s) w e w' := by
  by_cases hw : wideP (a, s)
  · have h := hw
    unfold wideP at h
    simp only at h
    obtain ⟨a', rfl⟩ : ∃ a' : Nat, a = (a' : Int) := ⟨a.toNat, by omega⟩
    obtain ⟨s', rfl⟩ : ∃ s' : Nat, s = (s' : Int) := ⟨s.toNat, by omega⟩
    exact load8_any A m c a' s' bs w hm hc hb (by omega) (by omega) hG
  · exact load8_no A m c a s bs w hw
set_option maxHeartbeats 1000000 in
set_option maxRecDepth 100000 in
theorem rload8_no (A : Option Addr) (m c : Nat) (a s : Int) (bs : List Nat) (w : World) (hw : ¬ wideP (a, s)) :
    Calls Tryd.prog 22 #[.slice A m c, .agg #[.int .i64 a, .int .i64 s]] w fun e w' => LrP bs (a, s) w e w' := by
  have HBN := Lib.hid (below_new w (.cells #[.int .i64 a, .int .i64 s] 54))
  have HWI := Lib.hid (rwide_any (a, s) (w.alloc (.cells #[.int .i64 a, .int .i64 s] 54)))
  rw [decide_eq_false hw] at HWI
  have HNO := Lib.hid (show IsLoad8 bs (a, s) 2 [] [] from .inl ⟨hw, rfl, rfl, rfl⟩)
  clear hw
  go_enter Tryd.func22, Tryd.ntmps22
  go_wp2_with (go_at_call 31; refine HWI.out.mono ?_; rintro _ w1 ⟨rfl, hb1⟩; refine Hid.out ?_)
  have HB1 := Lib.hid (below_more HBN.out hb1)
  clear hb1
  refine go_on ?_
  go_wp2
  go_ret3
  exact LrP.no HNO.out HB1.out
theorem rload8_all (A : Option Addr) (m c : Nat) (a s : Int) (bs : List Nat) (w : World) (hm : m ≤ 4194304) (hc : m ≤ c) (hb : Byt w w.heap.size A m bs) :
    Calls Tryd.prog 22 #[.slice A m c, .agg #[.int .i64 a, .int .i64 s]] w fun e w' => LrP bs (a, s) w e w' := by
  by_cases hw : wideP (a, s)
  · have h := hw
    unfold wideP at h
    simp only at h
    obtain ⟨a', rfl⟩ : ∃ a' : Nat, a = (a' : Int) := ⟨a.toNat, by omega⟩
    obtain ⟨s', rfl⟩ : ∃ s' : Nat, s = (s' : Int) := ⟨s.toNat, by omega⟩
    exact rload8_any A m c a' s' bs w hm hc hb (by omega) (by omega)
  · exact rload8_no A m c a s bs w hw
end Go.Proofs.YtcgapkepbnbabaaDoor.X5
