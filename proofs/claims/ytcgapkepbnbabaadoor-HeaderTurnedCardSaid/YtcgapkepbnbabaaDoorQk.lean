/- The reference's Load (printed by mkqk.py). -/
import Derived.Test.YtcgapkepbnbabaaDoorQj
import Derived.Test.YtcgapkepbnbabaaDoorQi
import Derived.Test.YtcgapkepbnbabaaDoorLt
import Derived.Test.YtcgapkepbnbabaaDoorKcf
namespace Go.Proofs.YtcgapkepbnbabaaDoor.X5
set_option linter.unusedVariables false
set_option linter.unusedSimpArgs false
open Go.RowKit Wd Ty9

/-- What the reference's Load hands back. -/
def LrP (bs : List Nat) (x : Xt) (w : World) (e : Ending) (w' : World) : Prop :=
  ∃ Al nl Cl Au nu Cu z l used, e = .returned (.tuple #[.slice Al nl Cl, .slice Au nu Cu, .int .i64 z]) ∧ IsLoad8 bs x z l used ∧ Ms w' w'.heap.size Al nl l ∧ Ex w' 0 w'.heap.size Au nu used ∧ Below w.heap.size w w'
theorem LrP.no {bs : List Nat} {x : Xt} {w w' : World} {z : Int} (h : IsLoad8 bs x z [] []) (hb : Below w.heap.size w w') : LrP bs x w (.returned (.tuple #[.slice none 0 0, .slice none 0 0, .int .i64 z])) w' :=
  ⟨_, _, _, _, _, _, z, [], [], rfl, h, Ms.nil _ _ _, Ex.nil _ _ _ _, hb⟩
/-- What the reference has in memory at a round's head. -/
structure RdS (w wr : World) (Vu Va : Value) (u : List Xt) (al : List Nat) (g9 n4 n8 : Nat) : Prop where
  be : Below w.heap.size w wr
  ru : wr.ownsRow w.heap.size 54 2 Vu u.length (cl u)
  ra : RowB wr w.heap.size Va al
  x9 : Bx wr g9 54 #[.int .i64 (n4 : Int), .int .i64 (n8 : Int)]
  h9 : w.heap.size ≤ g9
  d9u : Vu.ownBlock ≠ some g9
  d9a : Va.ownBlock ≠ some g9
  dua : ∀ k, Va.ownBlock = some k → Vu.ownBlock ≠ some k
section
variable {w wr w2 : World} {Vu Va : Value} {u : List Xt} {al : List Nat} {g9 n4 n8 : Nat}
theorem RdS.below (h : RdS w wr Vu Va u al g9 n4 n8) (hb : Below wr.heap.size wr w2) : RdS w w2 Vu Va u al g9 n4 n8 :=
  ⟨below_more h.be hb, own_below h.ru hb, h.ra.below hb, h.x9.later hb h.x9.lt, h.h9, h.d9u, h.d9a, h.dua⟩
theorem RdS.pushU (h : RdS w wr Vu Va u al g9 n4 n8) {Vu' : Value} {u' : List Xt} (hg : wr.grownBy w2 Vu.ownBlock) (ho : w2.ownsRow w.heap.size 54 2 Vu' u'.length (cl u')) (hw : Vu'.ownBlock = Vu.ownBlock ∨ Vu'.ownBlock = some wr.heap.size) : RdS w w2 Vu' Va u' al g9 n4 n8 := by
  have hn : ∀ k, k < wr.heap.size → Vu.ownBlock ≠ some k → Vu'.ownBlock ≠ some k := by
    intro k hk hne
    rcases hw with e | e
    · rw [e]; exact hne
    · rw [e]; intro e2; have := Option.some.inj e2; omega
  exact ⟨h.be.grown hg h.be.size (fun k hk => (h.ru.lt k hk).1), ho, ⟨h.ra.own.kept hg (ownBlock_or h.dua), h.ra.lt⟩, bx_grown h.x9 hg h.d9u, h.h9, hn g9 h.x9.lt h.d9u, h.d9a, fun k hk => hn k (h.ra.own.lt k hk).2 (h.dua k hk)⟩
theorem RdS.pushA (h : RdS w wr Vu Va u al g9 n4 n8) {Va' : Value} {al' : List Nat} (hr : Rl w.heap.size Va wr Va' al' w2) : RdS w w2 Vu Va' u al' g9 n4 n8 := by
  have hg := hr.gr
  have hn : ∀ k, k < wr.heap.size → Va.ownBlock ≠ some k → Va'.ownBlock ≠ some k := by
    intro k hk hne
    rcases hr.ow with e | ⟨j, e, hj⟩
    · rw [e]; exact hne
    · rw [e]; intro e2; have := Option.some.inj e2; omega
  exact ⟨h.be.grown hg h.be.size (fun k hk => (h.ra.own.lt k hk).1), h.ru.kept hg (ownBlock_or fun k hk e => h.dua k e hk), ⟨hr.own, hr.lt⟩, bx_grown h.x9 hg h.d9a, h.h9, h.d9u, hn g9 h.x9.lt h.d9a, fun k hk e => hn k (h.ru.lt k e).2 (fun e2 => h.dua k e2 e) hk⟩
theorem RdS.setX (h : RdS w wr Vu Va u al g9 n4 n8) (m4 m8 : Nat) : RdS w ((wr.setCell ⟨g9, 0, none⟩ (.int .i64 (m4 : Int))).setCell ⟨g9, 1, none⟩ (.int .i64 (m8 : Int))) Vu Va u al g9 m4 m8 := by
  have h9 := h.h9
  have hb : ∀ {V : Value} {base n : Nat} {e : TypeId} {size : Nat} {xs : List Value}, wr.ownsRow base e size V n xs → V.ownBlock ≠ some g9 → ((wr.setCell ⟨g9, 0, none⟩ (.int .i64 (m4 : Int))).setCell ⟨g9, 1, none⟩ (.int .i64 (m8 : Int))).ownsRow base e size V n xs := by
    intro V base n e size xs hr hne
    refine hr.kept (row := some g9) ⟨rfl, rfl, rfl, by simp [World.setCell], fun k hk hk2 => ?_⟩ (.inr hne)
    exact (Below.heap_setCell _ _ _ _ (fun e => hk2 (by rw [e]))).trans (Below.heap_setCell _ _ _ _ (fun e => hk2 (by rw [e])))
  exact ⟨(h.be.setCell (p := ⟨g9, 0, none⟩) h9 _).setCell (p := ⟨g9, 1, none⟩) h9 _, hb h.ru h.d9u, ⟨hb h.ra.own h.d9a, h.ra.lt⟩, (h.x9.set_ 0 (.int .i64 (m4 : Int))).set_ 1 (.int .i64 (m8 : Int)), h9, h.d9u, h.d9a, h.dua⟩
theorem RdS.next (h : RdS w wr Vu Va u al g9 n4 n8) (k4 k8 : Nat) : RdS w (wr.alloc (.cells #[.int .i64 (k4 : Int), .int .i64 (k8 : Int)] 54)) Vu Va u al wr.heap.size k4 k8 := by
  have h2 := h.below (below_new wr (.cells #[.int .i64 (k4 : Int), .int .i64 (k8 : Int)] 54))
  refine ⟨h2.be, h2.ru, h2.ra, Bx.new wr _ _, h.be.size, fun e => ?_, fun e => ?_, h2.dua⟩
  · have := (h.ru.lt _ e).2; omega
  · have := (h.ra.own.lt _ e).2; omega
end
theorem size_set2 (w : World) (a b : Addr) (u v : Value) : ((w.setCell a u).setCell b v).heap.size = w.heap.size := by simp [World.setCell]
/-- A row is appended by an operation that is wanted. -/
theorem step_appN_h {t e : TypeId} (ht : Tryd.prog.underlying t = some (.slice e)) (hinf : (Tryd.prog.info? e).map (fun i => (i.zero, i.size, i.bytes)) = some (some (.agg #[.int .i64 0, .int .i64 0]), 2, 16))
    {ops : Array Oper} {o : Oper} {a : Act} {w : World} {K : Act → World → Prop} {Q : Exit → Act → World → Prop} {E : Prop} (W : World) (hW : w = W) (hw : Region.wanted o (yielded ops a.tmps) = true) (s x : Operand)
    (ho : o.op = .call { callee := .builtin .append, args := #[s, x], argTypes := #[t, t] })
    (w0 : World) (V : Value) (ou ys : List Xt) (A : Option Addr) (m c lo hi : Nat) (hs : a.eval s = V) (hx : a.eval x = .slice A m c) (hm : 0 < m) (h : Ow e w0 V ou W) (hb : Ex W lo hi A m ys) (hl : (ou.length + m) * 16 ≤ 140737488355328)
    (hK : ∀ V' w', Ow e w0 V' (ou ++ ys) w' → W.grownBy w' V.ownBlock → K (a.put o.dst V') w') :
    if Region.wanted o (yielded ops a.tmps) = true then Oper.wp Tryd.prog o a w K Q else E := by
  subst hW
  rw [if_pos hw]
  obtain ⟨i0, hi0, hz, hs0, hbt⟩ := info_parts hinf
  obtain ⟨b, f, rfl, _, _, h3⟩ := hb.at_ hm
  refine wp_append_own w s x t ho w0.heap.size e i0 _ 2 16 ht hi0 hz hs0 hbt (by rfl) (by decide) V ou.length (cl ou) hs h.own ⟨b, f, none⟩ m c (cl ys) hx (by rw [cl_len, hb.len]) ?_ (cl_one ys) (by unfold maxLen; omega) hl h.be.size ?_
  · intro j u hu
    have hadd : (⟨b, f, none⟩ : Addr).add j = ⟨b, f + j, none⟩ := by unfold Addr.add; split <;> simp_all
    rw [hadd]
    exact h3 j u hu
  · intro V2 w4 hown2 hgr2 _
    refine hK V2 w4 (h.grown hgr2 ?_) hgr2
    rw [List.length_append, cl_app, hb.len]
    exact hown2
theorem step_app1_h {t e : TypeId} (ht : Tryd.prog.underlying t = some (.slice e)) (hinf : (Tryd.prog.info? e).map (fun i => (i.zero, i.size, i.bytes)) = some (some (.agg #[.int .i64 0, .int .i64 0]), 2, 16))
    {ops : Array Oper} {o : Oper} {a : Act} {w : World} {K : Act → World → Prop} {Q : Exit → Act → World → Prop} {E : Prop} (W : World) (hW : w = W) (hw : Region.wanted o (yielded ops a.tmps) = true) (s x : Operand)
    (ho : o.op = .call { callee := .builtin .append, args := #[s, x], argTypes := #[t, t] })
    (w0 : World) (V : Value) (ou : List Xt) (y : Xt) (g : Nat) (hs : a.eval s = V) (hx : a.eval x = .slice (some ⟨g, 0, none⟩) 1 1) (h : Ow e w0 V ou W) (hb : Bx W g e #[.int .i64 y.1, .int .i64 y.2]) (hl : (ou.length + 1) * 16 ≤ 140737488355328)
    (hK : ∀ V' w', Ow e w0 V' (ou ++ [y]) w' → K (a.put o.dst V') w') :
    if Region.wanted o (yielded ops a.tmps) = true then Oper.wp Tryd.prog o a w K Q else E := by
  subst hW
  rw [if_pos hw]
  obtain ⟨i0, hi0, hz, hs0, hbt⟩ := info_parts hinf
  refine wp_append_own w s x t ho w0.heap.size e i0 _ 2 16 ht hi0 hz hs0 hbt (by rfl) (by decide) V ou.length (cl ou) hs h.own ⟨g, 0, none⟩ 1 1 [.int .i64 y.1, .int .i64 y.2] hx (by rfl) (World.news_of_block hb) (by simp [Value.oneCell']) (by unfold maxLen; omega) hl h.be.size ?_
  intro V2 w4 hown2 hgr2 _
  refine hK V2 w4 (h.grown hgr2 ?_)
  rw [List.length_append, cl_app]
  exact hown2

set_option maxHeartbeats 8000000 in
set_option maxRecDepth 100000 in
theorem rload8_any (A : Option Addr) (m c a s : Nat) (bs : List Nat) (w : World) (hm : m ≤ 4194304) (hc : m ≤ c) (hb : Byt w w.heap.size A m bs) (hs : s ≤ 9223372036854775807) (ha : a ≤ 9223372036854775807) :
    Calls Tryd.prog 22 #[.slice A m c, .agg #[.int .i64 (a : Int), .int .i64 (s : Int)]] w fun e w' => LrP bs ((a : Int), (s : Int)) w e w' := by
  have hl := hb.len
  have HBY := Lib.hid hb
  have HL := Lib.hid hl
  have HM := Lib.hid (And.intro hm hc)
  have HBN := Lib.hid (below_new w (.cells #[.int .i64 (a : Int), .int .i64 (s : Int)] 54))
  have HBX := Lib.hid (Bx.new w 54 #[.int .i64 (a : Int), .int .i64 (s : Int)])
  have HWI := Lib.hid (rwide_any ((a : Int), (s : Int)) (w.alloc (.cells #[.int .i64 (a : Int), .int .i64 (s : Int)] 54)))
  clear hb hl hm hc
  by_cases hw : wideP ((a : Int), (s : Int))
  · rw [decide_eq_true hw] at HWI
    have HWD := Lib.hid hw
    clear hw hs ha
    go_enter Tryd.func22, Tryd.ntmps22
    go_wp2_with (go_at_call 31; refine HWI.out.mono ?_; rintro _ w1 ⟨rfl, hb1⟩; refine Hid.out ?_)
    have HB1 := Lib.hid (below_more HBN.out hb1)
    have e3 := HBX.out.later hb1 HBX.out.lt
    have c0 := e3.cell 0
    have c1 := e3.cell 1
    have HS1 := Lib.hid (show RdS w (w1.alloc (.cells #[.int .i64 (a : Int), .int .i64 (s : Int)] 54)) (.slice none 0 0) (.slice none 0 0) [] [] w1.heap.size a s from
      ⟨below_more HB1.out (below_new _ _), World.ownsRow_nil _ _ _ _, RowB.nil _ _, Bx.new _ _ _, HB1.out.size, fun e => (nomatch e), fun e => (nomatch e), fun k e => (nomatch e)⟩)
    clear hb1 e3
    refine go_on ?_
    go_wp2
    go_loopw [7, 8, 9] (fun vu va p9 wr => ∃ (u : List Xt) (al : List Nat) (g9 n4 n8 : Nat), p9 = .pointer (some ⟨g9, 0, none⟩) ∧ RdS w wr vu va u al g9 n4 n8 ∧ Hid (LdI bs ((a : Int), (s : Int)) true u al ((n4 : Int), (n8 : Int))) ∧ Hid (len8 va = al.length)) (fun _ va _ _ => m - len8 va)
    case atStart => exact ⟨[], [], _, a, s, rfl, HS1.out, Lib.hid (LdI.start HWD.out), Lib.hid rfl⟩
    case round =>
      obtain ⟨u, al, g9, n4, n8, rfl, hst, HI, HLN⟩ := hrel
      have HST := Lib.hid hst
      obtain ⟨Au, Cu, rfl⟩ := own_form hst.ru
      obtain ⟨Aa, Ca, rfl⟩ := own_form hst.ra.own
      obtain ⟨U, hU⟩ : ∃ U, u.length = U := ⟨_, rfl⟩
      obtain ⟨Q, hQ⟩ : ∃ Q, al.length = Q := ⟨_, rfl⟩
      rw [hU, hQ] at HST
      rw [hU, hQ]
      have HU := Lib.hid hU
      have HQ := Lib.hid hQ
      clear HLN hU hQ hst
      have x0 := HST.out.x9.cell 0
      have x1 := HST.out.x9.cell 1
      have HWY := Lib.hid (show 16 < n8 ∧ n8 ≤ 4194304 ∧ n4 + n8 ≤ 4194304 by have := (HI.out.2.2.2.1 rfl).1; unfold wideP at this; simp only at this; omega)
      have HUL := Lib.hid HI.out.small
      have s1 : IntKind.i64.wrap ((n4 : Int) + n8) = (n4 : Int) + n8 := IntWalk.i64_in _ (by have := HWY.out; omega)
      have s2 : wrap64 ((n4 : Int) + n8) = (n4 : Int) + n8 := by have := HWY.out; unfold wrap64; omega
      by_cases hsh : m < n4 + n8
      · have HNO := Lib.hid (show IsLoad8 bs ((a : Int), (s : Int)) 4 [] [] from HI.out.dies HWD.out (by decide) (.short (by have := HL.out; simp only; omega)))
        have z1 : (m : Int) < (n4 : Int) + (n8 : Int) := by omega
        clear hsh
        go_wp2
        go_ret3
        exact LrP.no HNO.out HST.out.be
      · have HLE := Lib.hid (show n4 + n8 ≤ bs.length by have := HL.out; omega)
        have HMN := Lib.hid (show n4 + n8 ≤ m by omega)
        have z1 : ¬ (m : Int) < (n4 : Int) + (n8 : Int) := by omega
        have HBA := Lib.hid (below_new wr (.cells #[.int .i64 (n4 : Int), .int .i64 (n8 : Int)] 54))
        have HSN := Lib.hid (HST.out.below HBA.out)
        clear hsh
        go_wp2_with (at_builtin; refine wp_pushX Tryd.underlying41 rext_info (by rfl) (.tmp 34) (.tmp 36) (by rfl) w.heap.size (.slice Au U Cu) u ((n4 : Int), (n8 : Int)) wr.heap.size (by rfl) (by rfl) HSN.out.ru (Bx.new wr _ _) HSN.out.be.size (by have h1 := HUL.out; have h2 := HM.out; have h3 := HL.out; omega) ?_; intro V2 w2 hown2 hgr2 how2; refine Hid.out ?_)
        have HS2 := Lib.hid (HSN.out.pushU hgr2 hown2 how2)
        obtain ⟨A2, C2, hV⟩ := own_form hown2
        have hul : (u ++ [((n4 : Int), (n8 : Int))]).length = U + 1 := by rw [List.length_append, HU.out]; rfl
        obtain ⟨U1, hU1⟩ : ∃ U1, U + 1 = U1 := ⟨_, rfl⟩
        rw [hU1] at hul
        rw [hul] at hV
        subst hV
        have HUL1 := Lib.hid hul
        have HU0 := Lib.hid (show 0 < U1 by omega)
        clear x0 x1 hown2 hgr2 how2 hul hU1 HSN HBA HST
        obtain ⟨b, o, rfl, -⟩ := HBY.out.at_ (by have h1 := HMN.out; have h2 := HWY.out; omega)
        have x0 := HS2.out.x9.cell 0
        have x1 := HS2.out.x9.cell 1
        have HUN := Lib.hid (runseal_any (some ⟨b, o + n4, none⟩) n8 (c - n4) (partB bs n4 n8) w2 (by have := HWY.out; omega) (by have h1 := HM.out; have h2 := HMN.out; omega) (((HBY.out.mid (p := n4) (n := n8) (by have := HMN.out; omega)).later HS2.out.be).up HS2.out.be.size))
        have z2 : (0 : Int) ≤ (n4 : Int) := by omega
        have z3 : (n4 : Int) ≤ (n4 : Int) + (n8 : Int) := by omega
        have z4 : (n4 : Int) + (n8 : Int) ≤ (c : Int) := by have h1 := HM.out; have h2 := HMN.out; omega
        have z5 : ((n4 : Int) + (n8 : Int)).toNat = n4 + n8 := by omega
        have z6 : ¬ c = n4 := by have h1 := HM.out; have h2 := HMN.out; have h3 := HWY.out; omega
        have z7 : n4 + n8 - n4 = n8 := by omega
        refine go_on ?_
        go_wp2_with (go_at_call 37; refine HUN.out.mono ?_; (first | rintro _ w3 ⟨V, z, out, rfl, hun, hrow, hbe⟩ | rintro _ w3 ⟨V, z, rfl, out, hun, hrow, hbe⟩); refine Hid.out ?_)
        have HBL := Lib.hid (blk_un HLE.out HWY.out.1 hun)
        have HS3 := Lib.hid (HS2.out.below hbe)
        obtain ⟨Ac, Cc, hV, hcu, hby⟩ := rowb_cap hrow
        obtain ⟨L, hL⟩ : ∃ L, out.length = L := ⟨_, rfl⟩
        have HOL := Lib.hid hL
        rw [hL] at hV hcu hby
        have HROW := Lib.hid hrow
        clear hun hbe HUN s1 s2 z1 z2 z3 z4 z5 z6 z7 x0 x1
        subst hV
        rcases HBL.out with ⟨rfl, hno⟩ | ⟨rfl, hol, hyes, hno1, hno2⟩
        · have HNO := Lib.hid (show IsLoad8 bs ((a : Int), (s : Int)) 5 [] [] from HI.out.dies HWD.out (by decide) (.bad (by have := HLE.out; simp only; omega) hno))
          clear hno hby hrow hcu hL
          refine go_on ?_
          go_wp2
          go_ret3
          exact LrP.no HNO.out HS3.out.be
        · rw [hL] at hol
          obtain ⟨g, cap, hVg, hg1, hg2⟩ := hrow.own.form (by have := HWY.out.1; omega)
          rw [hL] at hVg
          injection hVg with e1 e2 e3
          subst e1 e3
          have HBY3 := Lib.hid hby
          have HCU := Lib.hid hcu
          have HYES := Lib.hid hyes
          have HNO1 := Lib.hid (fun h => show IsLoad8 bs ((a : Int), (s : Int)) 5 [] [] from HI.out.dies HWD.out (by decide) (.bad (by have := HLE.out; simp only; omega) (hno1 h)))
          have HNO2 := Lib.hid (fun h => show IsLoad8 bs ((a : Int), (s : Int)) 5 [] [] from HI.out.dies HWD.out (by decide) (.bad (by have := HLE.out; simp only; omega) (hno2 h)))
          have HLS := Lib.hid hol
          have hn0 := getN_lt hby.lt 0
          have hn4 := getN_lt hby.lt 4
          have hn8 := getN_lt hby.lt 8
          have HT0 := Lib.hid (fun (W : World) (hbe : Below w3.heap.size w3 W) => show Calls Tryd.prog 38 #[.slice (some ⟨g, 0, none⟩) L Cc, .int .i64 0, .int .i64 4, .bool true] W (fun e w' => e = .returned (.tuple #[.int .u64 (getN out 0 : Nat), .int .i64 0]) ∧ Below W.heap.size W w') from rget84_ok 0 L Cc _ out W (by have := HWY.out.2.1; omega) (by have := HWY.out.1; omega) ((HBY3.out.later hbe).up hbe.size))
          have HT4 := Lib.hid (fun (W : World) (hbe : Below w3.heap.size w3 W) => show Calls Tryd.prog 38 #[.slice (some ⟨g, 0, none⟩) L Cc, .int .i64 4, .int .i64 4, .bool true] W (fun e w' => e = .returned (.tuple #[.int .u64 (getN out 4 : Nat), .int .i64 0]) ∧ Below W.heap.size W w') from rget84_ok 4 L Cc _ out W (by have := HWY.out.2.1; omega) (by have := HWY.out.1; omega) ((HBY3.out.later hbe).up hbe.size))
          have HT8 := Lib.hid (fun (W : World) (hbe : Below w3.heap.size w3 W) => show Calls Tryd.prog 38 #[.slice (some ⟨g, 0, none⟩) L Cc, .int .i64 8, .int .i64 4, .bool true] W (fun e w' => e = .returned (.tuple #[.int .u64 (getN out 8 : Nat), .int .i64 0]) ∧ Below W.heap.size W w') from rget84_ok 8 L Cc _ out W (by have := HWY.out.2.1; omega) (by have := HWY.out.1; omega) ((HBY3.out.later hbe).up hbe.size))
          clear hyes hno1 hno2 HBL hby hrow hL
          generalize getN out 0 = n0 at *
          generalize getN out 4 = m4 at *
          generalize getN out 8 = m8 at *
          have HN := Lib.hid (And.intro hn0 (And.intro hn4 hn8))
          clear hn0 hn4 hn8 hcu hol hg1
          refine go_on ?_
          go_wp2_with (go_at_call 38; refine (HT0.out w3 (Below.refl _ _)).mono ?_; rintro _ w4 ⟨rfl, hbe⟩; refine Hid.out ?_)
          have HB4 := Lib.hid hbe
          clear hbe HT0
          refine go_on ?_
          go_wp2_with (go_at_call 38; refine (HT4.out w4 HB4.out).mono ?_; rintro _ w5 ⟨rfl, hbe⟩; refine Hid.out ?_)
          have HB5 := Lib.hid (below_more HB4.out hbe)
          clear hbe HT4
          refine go_on ?_
          go_wp2_with (go_at_call 38; refine (HT8.out w5 HB5.out).mono ?_; rintro _ w6 ⟨rfl, hbe⟩; refine Hid.out ?_)
          have HB6 := Lib.hid (below_more HB5.out hbe)
          have HS6 := Lib.hid (HS3.out.below HB6.out)
          obtain ⟨cp, hcp⟩ : ∃ cp, cp + 16 = n8 := ⟨n8 - 16, by have := HWY.out; omega⟩
          have r1 : IntKind.i64.wrap ((n8 : Int) - 16) = (cp : Int) := by rw [show (n8 : Int) - 16 = (cp : Int) by omega]; exact IntWalk.i64_in _ (by have := HWY.out; omega)
          have r2 : wrap64 ((n8 : Int) - 16) = (cp : Int) := by have := HWY.out; unfold wrap64; omega
          have r4 : IntKind.u64.wrap (cp : Int) = (cp : Int) := by have := HWY.out; simp [IntKind.wrap, IntKind.bits, IntKind.signed]; omega
          have HCP := Lib.hid hcp
          have R1 := Lib.hid r1
          have R2 := Lib.hid r2
          have R4 := Lib.hid r4
          clear hbe HT8 hcp r1 r2 r4 HB5 HB4
          by_cases hnn : 1 ≤ n0 ∧ n0 ≤ cp
          · have HNR := Lib.hid hnn
            have y1 : ¬ (n0 : Int) < 1 := by omega
            have y2 : ¬ (cp : Int) < (n0 : Int) := by omega
            clear hnn
            have y4 : (12 : Int) + (n0 : Int) ≤ (L : Int) := by have h1 := HNR.out; have h2 := HCP.out; have h3 := HLS.out; omega
            have HY4 := Lib.hid (show 12 + n0 ≤ L by omega)
            have x0 := HS6.out.x9.cell 0
            have x1 := HS6.out.x9.cell 1
            have k1 : IntKind.i64.wrap (n0 : Int) = (n0 : Int) := by have := HN.out; exact IntWalk.i64_in _ (by omega)
            have k2 : IntKind.i64.wrap ((12 : Int) + (n0 : Int)) = (12 : Int) + (n0 : Int) := by have := HN.out; exact IntWalk.i64_in _ (by omega)
            have k2' : wrap64 ((12 : Int) + (n0 : Int)) = (12 : Int) + (n0 : Int) := by have := HN.out; unfold wrap64; omega
            have r1 := R1.out
            have r2 := R2.out
            have r4 := R4.out
            generalize wr = wo at *
            refine go_on ?_
            go_wp2
            clear k1 k2 k2' r1 r2 r4 x0 x1
            go_loopw [18] (fun i wr => ∃ (k : Nat), i = .int .i64 k ∧ 12 + n0 ≤ k ∧ k ≤ L ∧ Below w6.heap.size w6 wr ∧ Hid (∀ j y, 12 + n0 ≤ j → j < k → out[j]? = some y → y = 0)) (fun i _ => L - (intOf i).toNat)
            case atStart => exact ⟨12 + n0, by first | rfl | go_num | simp, Nat.le_refl _, HY4.out, Below.refl _ _, Lib.hid (fun j y h1 h2 => by omega)⟩
            case round =>
              obtain ⟨k, rfl, hk0, hk, hbe, HZ⟩ := hrel
              have HBE := Lib.hid hbe
              have HSW := Lib.hid (HS6.out.below hbe)
              have HWW := Lib.hid (below_more HB6.out hbe)
              have HK0 := Lib.hid (And.intro hk0 (show L ≤ 4194304 by have h1 := HLS.out; have h2 := HWY.out; omega))
              have hk9 := HK0.out.2
              clear hbe hk0
              by_cases hlt : k < L
              · have hltz : (k : Int) < (L : Int) := by omega
                obtain ⟨b', o', e, hb1, hcl⟩ := HBY3.out.at_ (by omega)
                cases e
                have hkl : k < out.length := by have := HOL.out; omega
                have cv := (HWW.out.cell (p := ⟨g, 0 + k, none⟩) hb1).trans (hcl k hkl)
                rw [Nat.zero_add] at cv
                have HY := Lib.hid (List.getElem?_eq_getElem hkl)
                generalize out[k]'hkl = y at cv HY
                clear hcl hkl hb1
                by_cases hy : y = 0
                · subst hy
                  have HZ2 := Lib.hid (show ∀ j y, 12 + n0 ≤ j → j < k + 1 → out[j]? = some y → y = 0 from fun j y hj0 hj hjy => by
                    rcases Nat.lt_or_ge j k with h | h
                    · exact HZ.out j y hj0 h hjy
                    · obtain rfl : j = k := by omega
                      rw [HY.out] at hjy
                      exact (Option.some.inj hjy).symm)
                  go_wp2
                  go_roundw
                  case rel => exact ⟨k + 1, by go_num, by have := HK0.out.1; omega, by omega, HBE.out, HZ2⟩
                  case measure => simp [intOf]; omega
                · have q1 : ((y : Int) != 0) = true := by simpa using hy
                  have q2 : ((y : Int) == 0) = false := by simpa using hy
                  have HNO := Lib.hid (HNO2.out (fun h => hy (h y (by
                    have h1 := HY.out
                    have h2 : (out.drop (12 + n0))[k - (12 + n0)]? = some y := by rw [List.getElem?_drop, show 12 + n0 + (k - (12 + n0)) = k by have := HK0.out.1; omega]; exact h1
                    exact List.mem_of_getElem? h2))))
                  clear hy
                  go_wp2
                  go_ret3
                  exact LrP.no HNO.out HSW.out.be
              · obtain rfl : k = L := by omega
                have HBK := Lib.hid (HYES.out (by have h1 := HNR.out; have h2 := HCP.out; omega) (fun y hy => by
                  obtain ⟨j, hj, rfl⟩ := List.getElem_of_mem hy
                  rw [List.getElem_drop]
                  rw [List.length_drop] at hj
                  exact HZ.out (12 + n0 + j) _ (by omega) (by have := HOL.out; omega) (List.getElem?_eq_getElem _)))
                have HPT := Lib.hid (((HBY3.out.mid (p := 12) (n := n0) (by have := HY4.out; omega)).later HWW.out))
                have HPL := Lib.hid (show ((out.drop 12).take n0).length = n0 by rw [List.length_take, List.length_drop, HOL.out]; have := HY4.out; omega)
                obtain ⟨p, hp⟩ : ∃ p, (out.drop 12).take n0 = p := ⟨_, rfl⟩
                rw [hp] at HBK HPT HPL
                have k1 : IntKind.i64.wrap (n0 : Int) = (n0 : Int) := by have := HN.out; exact IntWalk.i64_in _ (by omega)
                have k2 : IntKind.i64.wrap ((12 : Int) + (n0 : Int)) = (12 : Int) + (n0 : Int) := by have := HN.out; exact IntWalk.i64_in _ (by omega)
                have k2' : wrap64 ((12 : Int) + (n0 : Int)) = (12 : Int) + (n0 : Int) := by have := HN.out; unfold wrap64; omega
                have k3 : (12 : Int) ≤ (12 : Int) + (n0 : Int) := by omega
                have k4 : ¬ Cc = 12 := by have h1 := HCU.out; have h2 := HNR.out; have h3 := HY4.out; omega
                have k5 : 12 + n0 - 12 = n0 := by omega
                have k6 : (12 : Int) + (n0 : Int) ≤ (Cc : Int) := by have h1 := HCU.out; have h3 := HY4.out; omega
                have k7 : ((12 : Int) + (n0 : Int)).toNat = 12 + n0 := by omega
                have HLA := Lib.hid (show al.length + n0 ≤ 140737488355328 by have h1 := HUL.out; have h2 := HL.out; have h3 := HM.out; have h4 := HLS.out; have h5 := HWY.out; have h6 := HY4.out; omega)
                clear hlt hk hp
                go_wp2_with (at_builtin; refine wp_app rfl (.tmp 92) (.tmp 97) rfl w.heap.size n0 (Cc - 12) (.slice Aa Q Ca) al p (some ⟨g, 12, none⟩) _ (by rfl) (by rfl) HSW.out.ra.own HSW.out.ra.lt HPT.out HLA.out HSW.out.be.size ?_; intro V7 w7 hrl; refine Hid.out ?_)
                have HS7 := Lib.hid (HSW.out.pushA hrl)
                obtain ⟨A7, C7, hV⟩ := own_form hrl.own
                obtain ⟨Q7, hQ7⟩ : ∃ Q7, (al ++ p).length = Q7 := ⟨_, rfl⟩
                have HQ7 := Lib.hid hQ7
                rw [hQ7] at hV
                subst hV
                clear hrl hQ7 k1 k2 k2' k3 k4 k5 k6 k7
                have HM3 := Lib.hid (show (((m4 : Int) == 0) = false ∧ ¬ (m4 = 0 ∧ m8 = 0)) ∨ ((((m4 : Int) == 0) = true ∧ ((m8 : Int) == 0) = false) ∧ ¬ (m4 = 0 ∧ m8 = 0)) ∨ (((m4 : Int) == 0) = true ∧ ((m8 : Int) == 0) = true ∧ (m4 = 0 ∧ m8 = 0)) by
                  by_cases h4 : m4 = 0
                  · by_cases h8 : m8 = 0
                    · exact .inr (.inr ⟨by simp [h4], by simp [h8], h4, h8⟩)
                    · exact .inr (.inl ⟨⟨by simp [h4], by simpa using h8⟩, fun h => h8 h.2⟩)
                  · exact .inl ⟨by simpa using h4, fun h => h4 h.1⟩)
                rcases HM3.out with ⟨j4, hmo⟩ | ⟨⟨j4, j8⟩, hmo⟩ | ⟨j4, j8, hmo⟩
                · have HNZ := Lib.hid (show ((m4 : Int), (m8 : Int)) ≠ (0, 0) from fun e => hmo (by
                    have e1 := congrArg Prod.fst e
                    have e2 := congrArg Prod.snd e
                    simp only at e1 e2
                    omega))
                  have k1 : IntKind.i64.wrap (m4 : Int) = (m4 : Int) := by have := HN.out; exact IntWalk.i64_in _ (by omega)
                  have k2 : IntKind.i64.wrap (m8 : Int) = (m8 : Int) := by have := HN.out; exact IntWalk.i64_in _ (by omega)
                  clear hmo
                  refine go_on ?_
                  go_upto_region 25 with fail
                  clear k1 k2
                  have HBX7 := Lib.hid (below_new w7 (.cells #[.int .i64 (m4 : Int), .int .i64 (m8 : Int)] 54))
                  have HX8 := Lib.hid (Bx.new w7 54 #[.int .i64 (m4 : Int), .int .i64 (m8 : Int)])
                  have HS8 := Lib.hid (HS7.out.below HBX7.out)
                  obtain ⟨g19, hg19⟩ : ∃ g19, w7.heap.size = g19 := ⟨_, rfl⟩
                  have HG19 := Lib.hid (show g19 ≠ g9 by have := HS7.out.x9.lt; omega)
                  rw [hg19] at HX8
                  rw [hg19]
                  generalize w7.alloc (.cells #[.int .i64 (m4 : Int), .int .i64 (m8 : Int)] 54) = w8 at *
                  clear HBX7 hg19
                  have t1 : IntKind.i64.wrap (n0 : Int) = (n0 : Int) := by have := HN.out; exact IntWalk.i64_in _ (by omega)
                  have r1 := R1.out
                  have r2 := R2.out
                  by_cases hfull : n0 < cp
                  · have hfz : (n0 : Int) < (cp : Int) := by omega
                    have HNO := Lib.hid (show IsLoad8 bs ((a : Int), (s : Int)) 5 [] [] from HI.out.dies HWD.out (by decide) (.stop (by have := HLE.out; simp only; omega) HBK.out HNZ.out (fun h => by have h1 := h.1; have h2 := HPL.out; have h3 := HCP.out; unfold capN at h1; simp only at h1; omega)))
                    clear hfull
                    obtain ⟨G, hGd⟩ : ∃ G : World → Prop, G = fun w' => Below w8.heap.size w8 w' := ⟨_, rfl⟩
                    have hG0 : G { w8 with drawn := w8.drawn + 1 } := by rw [hGd]; exact (Below.refl _ _).drew
                    have hG1 : Hid (∀ (s : Wof G) w2, Below s.val.heap.size s.val w2 → G w2) := Lib.hid (by subst hGd; exact fun s w2 hb2 => below_more s.is hb2)
                    have hG2 : Hid (∀ s : Wof G, Below w8.heap.size w8 s.val) := Lib.hid (by subst hGd; exact fun s => s.is)
                    have e0 : ∀ s : Wof G, s.val.cell? ⟨g9, 0, none⟩ = some (.int .i64 (n4 : Int)) := fun s => ((HS8.out.below (hG2.out s)).x9.cell 0)
                    have e1 : ∀ s : Wof G, s.val.cell? ⟨g9, 1, none⟩ = some (.int .i64 (n8 : Int)) := fun s => ((HS8.out.below (hG2.out s)).x9.cell 1)
                    have e2 : ∀ s : Wof G, s.val.cell? ⟨g19, 0, none⟩ = some (.int .i64 (m4 : Int)) := fun s => ((HX8.out.later (hG2.out s) HX8.out.lt).cell 0)
                    have e3 : ∀ s : Wof G, s.val.cell? ⟨g19, 1, none⟩ = some (.int .i64 (m8 : Int)) := fun s => ((HX8.out.later (hG2.out s) HX8.out.lt).cell 1)
                    have hne : Nonempty (Wof G) := ⟨⟨_, hG0⟩⟩
                    clear hGd
                    refine wp_region_kept (G := G) (by kernel_rfl) (by kernel_rfl) hG0 ?_
                    clear hG0
                    repeat (go_big_quiet_step ((fail)))
                    refine wpQuiet_nil ?_
                    rintro _ ⟨s, rfl⟩
                    have HS9 := Lib.hid (HS8.out.below (hG2.out s))
                    obtain ⟨w9, hw9⟩ := s
                    change Hid (RdS w w9 _ _ _ _ _ _ _) at HS9
                    clear hG1 hG2 hne e0 e1 e2 e3
                    simp only
                    go_wp2
                    go_ret3
                    exact LrP.no HNO.out HS9.out.be
                  · have hfz : ¬ (n0 : Int) < (cp : Int) := by omega
                    have HFU := Lib.hid (show n0 = cp by have := HNR.out; omega)
                    have HWI2 := Lib.hid (fun (W : World) => rwide_any ((m4 : Int), (m8 : Int)) W)
                    clear hfull
                    by_cases hw2 : wideP ((m4 : Int), (m8 : Int))
                    · rw [decide_eq_true hw2] at HWI2
                      have HW2 := Lib.hid hw2
                      clear hw2
                      obtain ⟨A2', C2', hV, -, hex, -⟩ := own_ex HS8.out.ru
                      rw [HUL1.out] at hV hex
                      injection hV with q1 q2 q3
                      subst q1 q3
                      have HEX := Lib.hid (fun (W : World) (hbe : Below w8.heap.size w8 W) => hex.later hbe (Nat.le_refl _))
                      have HUB := Lib.hid (show U1 * 17 ≤ 4194304 + 17 by
                        have h1 := HI.out.small.2
                        have h2 := HL.out
                        have h3 := HM.out.1
                        have h4 := HUL1.out
                        rw [List.length_append] at h4
                        simp only [List.length_cons, List.length_nil] at h4
                        omega)
                      obtain ⟨U2, hU2⟩ : ∃ U2, (u ++ [((n4 : Int), (n8 : Int))] ++ [((m4 : Int), (m8 : Int))]).length = U2 := ⟨_, rfl⟩
                      have HUL2 := Lib.hid hU2
                      have HUB2 := Lib.hid (show U2 = U1 + 1 by rw [← hU2, List.length_append, HUL1.out]; rfl)
                      replace HUB := Lib.hid (show U1 * 17 ≤ 4194304 + 17 ∧ U2 ≤ 140737488355328 by have h1 := HUB.out; have h2 := HUB2.out; omega)
                      have HLL0 := Lib.hid (show (([] : List Xt).length + U1) * 16 ≤ 140737488355328 by have := HUB.out.1; simp; omega)
                      have HLL1 := Lib.hid (show ((u ++ [((n4 : Int), (n8 : Int))]).length + 1) * 16 ≤ 140737488355328 by rw [HUL1.out]; have := HUB.out.1; omega)
                      clear hex hU2
                      have HX8f := Lib.hid (And.intro (HX8.out.cell 0) (HX8.out.cell 1))
                      have x0 := HS8.out.x9.cell 0
                      have x1 := HS8.out.x9.cell 1
                      have x2 := HX8.out.cell 0
                      have x3 := HX8.out.cell 1
                      go_upto_region 25 with fail
                      go_region_law (first
                        | (have hgate := HWI2.out; clear hgate; go_simp; go_at_call 31; refine (HWI2.out _).mono ?_; rintro _ w9 ⟨rfl, hb⟩; have HB9 := Lib.hid (below_more ((Below.refl w8.heap.size w8).drew) hb); have HS9 := Lib.hid (HS8.out.below HB9.out); have HX9 := Lib.hid (HX8.out.later HB9.out HX8.out.lt); have x2 := HX9.out.cell 0; have x3 := HX9.out.cell 1; have x2a : (w9.alloc (.cells #[] 54)).cell? ⟨g19, 0, none⟩ = some (.int .i64 (m4 : Int)) := (HX9.out.later (below_new w9 (.cells #[] 54)) HX9.out.lt).cell 0; have x3a : (w9.alloc (.cells #[] 54)).cell? ⟨g19, 1, none⟩ = some (.int .i64 (m8 : Int)) := (HX9.out.later (below_new w9 (.cells #[] 54)) HX9.out.lt).cell 1; have HE9 := Lib.hid (fun (W : World) (hbe : Below w9.heap.size w9 W) => HEX.out W (below_more HB9.out hbe)); have HO9 := Lib.hid (fun (W : World) (hbe : Below w9.heap.size w9 W) => (show Ow 54 w9 (.slice (some ⟨W.heap.size, 0, none⟩) 0 0) [] (W.alloc (.cells #[] 54)) from ⟨World.ownsRow_made W #[] 0 hbe.size (Nat.zero_le _) (by simp), below_more hbe (below_new W _)⟩)); clear hb HWI2)
                        | (have hgate := HO9.out; clear hgate; refine step_appN_h Tryd.underlying41 rext_info (w9.alloc (.cells #[] 54)) (by with_reducible rfl) (by rfl) (.tmp 122) (.tmp 123) (by rfl) w9 (.slice (some ⟨w9.heap.size, 0, none⟩) 0 0) [] (u ++ [((n4 : Int), (n8 : Int))]) A2 U1 C2 w.heap.size w8.heap.size (by rfl) (by rfl) HU0.out (HO9.out _ (Below.refl _ _)) (HE9.out _ (below_new _ _)) HLL0.out ?_; intro V4 wa how4 hgr; rw [List.nil_append] at how4; obtain ⟨A4, C4, hV⟩ := own_form how4.own; rw [HUL1.out] at hV; subst hV;  have HO4 := Lib.hid (how4.below (below_new wa (.cells #[.int .i64 (m4 : Int), .int .i64 (m8 : Int)] 54))); have HX4 := Lib.hid (HX9.out.later how4.be HX9.out.lt); have x2b := HX4.out.cell 0; have x3b := HX4.out.cell 1; clear how4 hgr HO9)
                        | (have hgate := HO9.out; clear hgate; refine step_appN_h Tryd.underlying41 rext_info ((w9.alloc (.cells #[] 54)).alloc (.cells #[.int .i64 (m4 : Int), .int .i64 (m8 : Int)] 54)) (by with_reducible rfl) (by rfl) (.tmp 122) (.tmp 123) (by rfl) w9 (.slice (some ⟨w9.heap.size, 0, none⟩) 0 0) [] (u ++ [((n4 : Int), (n8 : Int))]) A2 U1 C2 w.heap.size w8.heap.size (by rfl) (by rfl) HU0.out ((HO9.out _ (Below.refl _ _)).below (below_new _ (.cells #[.int .i64 (m4 : Int), .int .i64 (m8 : Int)] 54))) (HE9.out _ (below_more (below_new _ _) (below_new _ _))) HLL0.out ?_; intro V4 wa how4 hgr; rw [List.nil_append] at how4; obtain ⟨A4, C4, hV⟩ := own_form how4.own; rw [HUL1.out] at hV; subst hV;  have HO5 := Lib.hid how4; have HLT1 := Lib.hid (show Bx wa (w9.heap.size + 1) 54 #[.int .i64 (m4 : Int), .int .i64 (m8 : Int)] from (hgr.block (w9.heap.size + 1) (by simp) (fun e => by have := Option.some.inj (show some (w9.heap.size + 1) = some w9.heap.size from e); omega)).trans (Bx.new2 w9 _ _ _)); clear how4 hgr HO9)
                        | (have hgate := HO9.out; clear hgate; refine step_appN_h Tryd.underlying41 rext_info ((w9.alloc (.cells #[.int .i64 (m4 : Int), .int .i64 (m8 : Int)] 54)).alloc (.cells #[] 54)) (by with_reducible rfl) (by rfl) (.tmp 122) (.tmp 123) (by rfl) w9 (.slice (some ⟨w9.heap.size + 1, 0, none⟩) 0 0) [] (u ++ [((n4 : Int), (n8 : Int))]) A2 U1 C2 w.heap.size w8.heap.size (by rfl) (by rfl) HU0.out (show Ow 54 w9 (.slice (some ⟨w9.heap.size + 1, 0, none⟩) 0 0) [] ((w9.alloc (.cells #[.int .i64 (m4 : Int), .int .i64 (m8 : Int)] 54)).alloc (.cells #[] 54)) by have h := HO9.out (w9.alloc (.cells #[.int .i64 (m4 : Int), .int .i64 (m8 : Int)] 54)) (below_new w9 _); rwa [size_alloc] at h) (HE9.out _ (below_more (below_new _ _) (below_new _ _))) HLL0.out ?_; intro V4 wa how4 hgr; rw [List.nil_append] at how4; obtain ⟨A4, C4, hV⟩ := own_form how4.own; rw [HUL1.out] at hV; subst hV;  have HO5 := Lib.hid how4; have HLT0 := Lib.hid (show Bx wa w9.heap.size 54 #[.int .i64 (m4 : Int), .int .i64 (m8 : Int)] from (hgr.block w9.heap.size (by simp; omega) (fun e => by have := Option.some.inj (show some w9.heap.size = some (w9.heap.size + 1) from e); omega)).trans ((Bx.new w9 54 #[.int .i64 (m4 : Int), .int .i64 (m8 : Int)]).later (below_new (w9.alloc (.cells #[.int .i64 (m4 : Int), .int .i64 (m8 : Int)] 54)) (.cells #[] 54)) (by simp))); clear how4 hgr HO9)
                        | (have hgate := HO4.out; clear hgate; refine step_app1_h Tryd.underlying41 rext_info (wa.alloc (.cells #[.int .i64 (m4 : Int), .int .i64 (m8 : Int)] 54)) (by with_reducible rfl) (by rfl) (.tmp 124) (.tmp 126) (by rfl) w9 (.slice A4 U1 C4) (u ++ [((n4 : Int), (n8 : Int))]) ((m4 : Int), (m8 : Int)) wa.heap.size (by rfl) (by rfl) HO4.out (Bx.new wa _ _) HLL1.out ?_; intro V5 wb how5; have hown5 := how5.own; rw [HUL2.out] at hown5; obtain ⟨A5, C5, hV, -, hex5, -⟩ := own_ex hown5; subst hV; have HSB := Lib.hid (HS9.out.below how5.be); have HME := Lib.hid (rmeets_any A5 U2 C5 _ _ _ wb (by have := HUB.out; omega) hex5 (Nat.le_refl _)); have HBB := Lib.hid how5.be; clear how5 hown5 hex5; clear HO4)
                        | (have hgate := HLT1.out; clear hgate; refine step_app1_h Tryd.underlying41 rext_info wa (by with_reducible rfl) (by rfl) (.tmp 124) (.tmp 126) (by rfl) w9 (.slice A4 U1 C4) (u ++ [((n4 : Int), (n8 : Int))]) ((m4 : Int), (m8 : Int)) (w9.heap.size + 1) (by rfl) (by rfl) HO5.out HLT1.out HLL1.out ?_; intro V5 wb how5; have hown5 := how5.own; rw [HUL2.out] at hown5; obtain ⟨A5, C5, hV, -, hex5, -⟩ := own_ex hown5; subst hV; have HSB := Lib.hid (HS9.out.below how5.be); have HME := Lib.hid (rmeets_any A5 U2 C5 _ _ _ wb (by have := HUB.out; omega) hex5 (Nat.le_refl _)); have HBB := Lib.hid how5.be; clear how5 hown5 hex5; clear HLT1)
                        | (have hgate := HLT0.out; clear hgate; refine step_app1_h Tryd.underlying41 rext_info wa (by with_reducible rfl) (by rfl) (.tmp 124) (.tmp 126) (by rfl) w9 (.slice A4 U1 C4) (u ++ [((n4 : Int), (n8 : Int))]) ((m4 : Int), (m8 : Int)) w9.heap.size (by rfl) (by rfl) HO5.out HLT0.out HLL1.out ?_; intro V5 wb how5; have hown5 := how5.own; rw [HUL2.out] at hown5; obtain ⟨A5, C5, hV, -, hex5, -⟩ := own_ex hown5; subst hV; have HSB := Lib.hid (HS9.out.below how5.be); have HME := Lib.hid (rmeets_any A5 U2 C5 _ _ _ wb (by have := HUB.out; omega) hex5 (Nat.le_refl _)); have HBB := Lib.hid how5.be; clear how5 hown5 hex5; clear HLT0)
                        | (have hgate := HME.out; clear hgate; go_simp; go_at_call 32; refine HME.out.mono ?_; rintro _ wc ⟨r, rfl, hr, hb⟩; have HR := hr; have HSC := Lib.hid (HSB.out.below hb); have HXC := Lib.hid (HX9.out.later (below_more HBB.out hb) HX9.out.lt); clear hb hr HME))
                      all_goals
                        clear x0 x1 x2 x3 t1 r1 r2
                        have HMX := Lib.hid (show r = false ↔ noMeet (u ++ [((n4 : Int), (n8 : Int))] ++ [((m4 : Int), (m8 : Int))]) from HR.out)
                        have HWC := Lib.hid (show ∃ W, W = wc from ⟨_, rfl⟩)
                        have e2 := HXC.out.cell 0
                        have e3 := HXC.out.cell 1
                        have e0 := HSC.out.x9.cell 0
                        have e1 := HSC.out.x9.cell 1
                        have f0 := HSC.out.x9.frozen 0
                        have f1 := HSC.out.x9.frozen 1
                        have HSD := Lib.hid (HSC.out.setX m4 m8)
                        have hnx := HSD.out.next m4 m8
                        rw [size_set2] at hnx
                        have HNEW := Lib.hid hnx
                        have d0 := HSD.out.x9.cell 0
                        have d1 := HSD.out.x9.cell 1
                        clear HR hnx
                        cases r
                        case true =>
                          have HNO := Lib.hid (show IsLoad8 bs ((a : Int), (s : Int)) 5 [] [] from HI.out.dies HWD.out (by decide) (.stop (by have := HLE.out; simp only; omega) HBK.out HNZ.out (fun h => absurd (HMX.out.mpr h.2.2) (by decide))))
                          clear d0 d1 e0 e1 e2 e3 f0 f1
                          go_wp2
                          go_ret3
                          exact LrP.no HNO.out HSC.out.be
                        case false =>
                          have HI5 := Lib.hid (show LdI bs ((a : Int), (s : Int)) true (u ++ [((n4 : Int), (n8 : Int))]) (al ++ p) ((m4 : Int), (m8 : Int)) from HI.out.more (by have := HLE.out; simp only; omega) (by have h1 := HPL.out; have h2 := HNR.out; have h3 := HCP.out; simp only; omega) HBK.out HNZ.out ⟨by have h1 := HFU.out; have h2 := HPL.out; have h3 := HCP.out; unfold capN; simp only; omega, HW2.out, HMX.out.mp rfl⟩)
                          go_wp2
                          go_roundw
                          case rel => exact ⟨_, _, _, m4, m8, rfl, HNEW.out, HI5, Lib.hid HQ7.out.symm⟩
                          case measure => simp only [len8]; have h1 := HI5.out.small.1; have h2 := HQ7.out; have h3 := HL.out; have h4 := HQ.out; have h5 := HPL.out; have h6 := HNR.out.1; rw [List.length_append] at h1 h2; omega
                    · rw [decide_eq_false hw2] at HWI2
                      have HNO := Lib.hid (show IsLoad8 bs ((a : Int), (s : Int)) 5 [] [] from HI.out.dies HWD.out (by decide) (.stop (by have := HLE.out; simp only; omega) HBK.out HNZ.out (fun h => hw2 h.2.1)))
                      clear hw2
                      obtain ⟨G, hGd⟩ : ∃ G : World → Prop, G = fun w' => Below w8.heap.size w8 w' := ⟨_, rfl⟩
                      have hG0 : G { w8 with drawn := w8.drawn + 1 } := by rw [hGd]; exact (Below.refl _ _).drew
                      have hG1 : Hid (∀ (s : Wof G) w2, Below s.val.heap.size s.val w2 → G w2) := Lib.hid (by subst hGd; exact fun s w2 hb2 => below_more s.is hb2)
                      have hG2 : Hid (∀ s : Wof G, Below w8.heap.size w8 s.val) := Lib.hid (by subst hGd; exact fun s => s.is)
                      have e0 : ∀ s : Wof G, s.val.cell? ⟨g9, 0, none⟩ = some (.int .i64 (n4 : Int)) := fun s => ((HS8.out.below (hG2.out s)).x9.cell 0)
                      have e1 : ∀ s : Wof G, s.val.cell? ⟨g9, 1, none⟩ = some (.int .i64 (n8 : Int)) := fun s => ((HS8.out.below (hG2.out s)).x9.cell 1)
                      have e2 : ∀ s : Wof G, s.val.cell? ⟨g19, 0, none⟩ = some (.int .i64 (m4 : Int)) := fun s => ((HX8.out.later (hG2.out s) HX8.out.lt).cell 0)
                      have e3 : ∀ s : Wof G, s.val.cell? ⟨g19, 1, none⟩ = some (.int .i64 (m8 : Int)) := fun s => ((HX8.out.later (hG2.out s) HX8.out.lt).cell 1)
                      have hne : Nonempty (Wof G) := ⟨⟨_, hG0⟩⟩
                      clear hGd
                      refine wp_region_kept (G := G) (by kernel_rfl) (by kernel_rfl) hG0 ?_
                      clear hG0
                      repeat (go_big_quiet_step (((go_at_call 31; refine (HWI2.out _).mono ?_; rintro _ w2 ⟨he, hb2⟩; exact ⟨he, ⟨w2, hG1.out _ _ hb2⟩, rfl⟩))))
                      refine wpQuiet_nil ?_
                      rintro _ ⟨s, rfl⟩
                      have HS9 := Lib.hid (HS8.out.below (hG2.out s))
                      obtain ⟨w9, hw9⟩ := s
                      change Hid (RdS w w9 _ _ _ _ _ _ _) at HS9
                      clear hG1 hG2 hne e0 e1 e2 e3
                      simp only
                      go_wp2
                      go_ret3
                      exact LrP.no HNO.out HS9.out.be
                · have HNZ := Lib.hid (show ((m4 : Int), (m8 : Int)) ≠ (0, 0) from fun e => hmo (by
                    have e1 := congrArg Prod.fst e
                    have e2 := congrArg Prod.snd e
                    simp only at e1 e2
                    omega))
                  have k1 : IntKind.i64.wrap (m4 : Int) = (m4 : Int) := by have := HN.out; exact IntWalk.i64_in _ (by omega)
                  have k2 : IntKind.i64.wrap (m8 : Int) = (m8 : Int) := by have := HN.out; exact IntWalk.i64_in _ (by omega)
                  clear hmo
                  refine go_on ?_
                  go_upto_region 25 with fail
                  clear k1 k2
                  have HBX7 := Lib.hid (below_new w7 (.cells #[.int .i64 (m4 : Int), .int .i64 (m8 : Int)] 54))
                  have HX8 := Lib.hid (Bx.new w7 54 #[.int .i64 (m4 : Int), .int .i64 (m8 : Int)])
                  have HS8 := Lib.hid (HS7.out.below HBX7.out)
                  obtain ⟨g19, hg19⟩ : ∃ g19, w7.heap.size = g19 := ⟨_, rfl⟩
                  have HG19 := Lib.hid (show g19 ≠ g9 by have := HS7.out.x9.lt; omega)
                  rw [hg19] at HX8
                  rw [hg19]
                  generalize w7.alloc (.cells #[.int .i64 (m4 : Int), .int .i64 (m8 : Int)] 54) = w8 at *
                  clear HBX7 hg19
                  have t1 : IntKind.i64.wrap (n0 : Int) = (n0 : Int) := by have := HN.out; exact IntWalk.i64_in _ (by omega)
                  have r1 := R1.out
                  have r2 := R2.out
                  by_cases hfull : n0 < cp
                  · have hfz : (n0 : Int) < (cp : Int) := by omega
                    have HNO := Lib.hid (show IsLoad8 bs ((a : Int), (s : Int)) 5 [] [] from HI.out.dies HWD.out (by decide) (.stop (by have := HLE.out; simp only; omega) HBK.out HNZ.out (fun h => by have h1 := h.1; have h2 := HPL.out; have h3 := HCP.out; unfold capN at h1; simp only at h1; omega)))
                    clear hfull
                    obtain ⟨G, hGd⟩ : ∃ G : World → Prop, G = fun w' => Below w8.heap.size w8 w' := ⟨_, rfl⟩
                    have hG0 : G { w8 with drawn := w8.drawn + 1 } := by rw [hGd]; exact (Below.refl _ _).drew
                    have hG1 : Hid (∀ (s : Wof G) w2, Below s.val.heap.size s.val w2 → G w2) := Lib.hid (by subst hGd; exact fun s w2 hb2 => below_more s.is hb2)
                    have hG2 : Hid (∀ s : Wof G, Below w8.heap.size w8 s.val) := Lib.hid (by subst hGd; exact fun s => s.is)
                    have e0 : ∀ s : Wof G, s.val.cell? ⟨g9, 0, none⟩ = some (.int .i64 (n4 : Int)) := fun s => ((HS8.out.below (hG2.out s)).x9.cell 0)
                    have e1 : ∀ s : Wof G, s.val.cell? ⟨g9, 1, none⟩ = some (.int .i64 (n8 : Int)) := fun s => ((HS8.out.below (hG2.out s)).x9.cell 1)
                    have e2 : ∀ s : Wof G, s.val.cell? ⟨g19, 0, none⟩ = some (.int .i64 (m4 : Int)) := fun s => ((HX8.out.later (hG2.out s) HX8.out.lt).cell 0)
                    have e3 : ∀ s : Wof G, s.val.cell? ⟨g19, 1, none⟩ = some (.int .i64 (m8 : Int)) := fun s => ((HX8.out.later (hG2.out s) HX8.out.lt).cell 1)
                    have hne : Nonempty (Wof G) := ⟨⟨_, hG0⟩⟩
                    clear hGd
                    refine wp_region_kept (G := G) (by kernel_rfl) (by kernel_rfl) hG0 ?_
                    clear hG0
                    repeat (go_big_quiet_step ((fail)))
                    refine wpQuiet_nil ?_
                    rintro _ ⟨s, rfl⟩
                    have HS9 := Lib.hid (HS8.out.below (hG2.out s))
                    obtain ⟨w9, hw9⟩ := s
                    change Hid (RdS w w9 _ _ _ _ _ _ _) at HS9
                    clear hG1 hG2 hne e0 e1 e2 e3
                    simp only
                    go_wp2
                    go_ret3
                    exact LrP.no HNO.out HS9.out.be
                  · have hfz : ¬ (n0 : Int) < (cp : Int) := by omega
                    have HFU := Lib.hid (show n0 = cp by have := HNR.out; omega)
                    have HWI2 := Lib.hid (fun (W : World) => rwide_any ((m4 : Int), (m8 : Int)) W)
                    clear hfull
                    by_cases hw2 : wideP ((m4 : Int), (m8 : Int))
                    · rw [decide_eq_true hw2] at HWI2
                      have HW2 := Lib.hid hw2
                      clear hw2
                      obtain ⟨A2', C2', hV, -, hex, -⟩ := own_ex HS8.out.ru
                      rw [HUL1.out] at hV hex
                      injection hV with q1 q2 q3
                      subst q1 q3
                      have HEX := Lib.hid (fun (W : World) (hbe : Below w8.heap.size w8 W) => hex.later hbe (Nat.le_refl _))
                      have HUB := Lib.hid (show U1 * 17 ≤ 4194304 + 17 by
                        have h1 := HI.out.small.2
                        have h2 := HL.out
                        have h3 := HM.out.1
                        have h4 := HUL1.out
                        rw [List.length_append] at h4
                        simp only [List.length_cons, List.length_nil] at h4
                        omega)
                      obtain ⟨U2, hU2⟩ : ∃ U2, (u ++ [((n4 : Int), (n8 : Int))] ++ [((m4 : Int), (m8 : Int))]).length = U2 := ⟨_, rfl⟩
                      have HUL2 := Lib.hid hU2
                      have HUB2 := Lib.hid (show U2 = U1 + 1 by rw [← hU2, List.length_append, HUL1.out]; rfl)
                      replace HUB := Lib.hid (show U1 * 17 ≤ 4194304 + 17 ∧ U2 ≤ 140737488355328 by have h1 := HUB.out; have h2 := HUB2.out; omega)
                      have HLL0 := Lib.hid (show (([] : List Xt).length + U1) * 16 ≤ 140737488355328 by have := HUB.out.1; simp; omega)
                      have HLL1 := Lib.hid (show ((u ++ [((n4 : Int), (n8 : Int))]).length + 1) * 16 ≤ 140737488355328 by rw [HUL1.out]; have := HUB.out.1; omega)
                      clear hex hU2
                      have HX8f := Lib.hid (And.intro (HX8.out.cell 0) (HX8.out.cell 1))
                      have x0 := HS8.out.x9.cell 0
                      have x1 := HS8.out.x9.cell 1
                      have x2 := HX8.out.cell 0
                      have x3 := HX8.out.cell 1
                      go_upto_region 25 with fail
                      go_region_law (first
                        | (have hgate := HWI2.out; clear hgate; go_simp; go_at_call 31; refine (HWI2.out _).mono ?_; rintro _ w9 ⟨rfl, hb⟩; have HB9 := Lib.hid (below_more ((Below.refl w8.heap.size w8).drew) hb); have HS9 := Lib.hid (HS8.out.below HB9.out); have HX9 := Lib.hid (HX8.out.later HB9.out HX8.out.lt); have x2 := HX9.out.cell 0; have x3 := HX9.out.cell 1; have x2a : (w9.alloc (.cells #[] 54)).cell? ⟨g19, 0, none⟩ = some (.int .i64 (m4 : Int)) := (HX9.out.later (below_new w9 (.cells #[] 54)) HX9.out.lt).cell 0; have x3a : (w9.alloc (.cells #[] 54)).cell? ⟨g19, 1, none⟩ = some (.int .i64 (m8 : Int)) := (HX9.out.later (below_new w9 (.cells #[] 54)) HX9.out.lt).cell 1; have HE9 := Lib.hid (fun (W : World) (hbe : Below w9.heap.size w9 W) => HEX.out W (below_more HB9.out hbe)); have HO9 := Lib.hid (fun (W : World) (hbe : Below w9.heap.size w9 W) => (show Ow 54 w9 (.slice (some ⟨W.heap.size, 0, none⟩) 0 0) [] (W.alloc (.cells #[] 54)) from ⟨World.ownsRow_made W #[] 0 hbe.size (Nat.zero_le _) (by simp), below_more hbe (below_new W _)⟩)); clear hb HWI2)
                        | (have hgate := HO9.out; clear hgate; refine step_appN_h Tryd.underlying41 rext_info (w9.alloc (.cells #[] 54)) (by with_reducible rfl) (by rfl) (.tmp 122) (.tmp 123) (by rfl) w9 (.slice (some ⟨w9.heap.size, 0, none⟩) 0 0) [] (u ++ [((n4 : Int), (n8 : Int))]) A2 U1 C2 w.heap.size w8.heap.size (by rfl) (by rfl) HU0.out (HO9.out _ (Below.refl _ _)) (HE9.out _ (below_new _ _)) HLL0.out ?_; intro V4 wa how4 hgr; rw [List.nil_append] at how4; obtain ⟨A4, C4, hV⟩ := own_form how4.own; rw [HUL1.out] at hV; subst hV;  have HO4 := Lib.hid (how4.below (below_new wa (.cells #[.int .i64 (m4 : Int), .int .i64 (m8 : Int)] 54))); have HX4 := Lib.hid (HX9.out.later how4.be HX9.out.lt); have x2b := HX4.out.cell 0; have x3b := HX4.out.cell 1; clear how4 hgr HO9)
                        | (have hgate := HO9.out; clear hgate; refine step_appN_h Tryd.underlying41 rext_info ((w9.alloc (.cells #[] 54)).alloc (.cells #[.int .i64 (m4 : Int), .int .i64 (m8 : Int)] 54)) (by with_reducible rfl) (by rfl) (.tmp 122) (.tmp 123) (by rfl) w9 (.slice (some ⟨w9.heap.size, 0, none⟩) 0 0) [] (u ++ [((n4 : Int), (n8 : Int))]) A2 U1 C2 w.heap.size w8.heap.size (by rfl) (by rfl) HU0.out ((HO9.out _ (Below.refl _ _)).below (below_new _ (.cells #[.int .i64 (m4 : Int), .int .i64 (m8 : Int)] 54))) (HE9.out _ (below_more (below_new _ _) (below_new _ _))) HLL0.out ?_; intro V4 wa how4 hgr; rw [List.nil_append] at how4; obtain ⟨A4, C4, hV⟩ := own_form how4.own; rw [HUL1.out] at hV; subst hV;  have HO5 := Lib.hid how4; have HLT1 := Lib.hid (show Bx wa (w9.heap.size + 1) 54 #[.int .i64 (m4 : Int), .int .i64 (m8 : Int)] from (hgr.block (w9.heap.size + 1) (by simp) (fun e => by have := Option.some.inj (show some (w9.heap.size + 1) = some w9.heap.size from e); omega)).trans (Bx.new2 w9 _ _ _)); clear how4 hgr HO9)
                        | (have hgate := HO9.out; clear hgate; refine step_appN_h Tryd.underlying41 rext_info ((w9.alloc (.cells #[.int .i64 (m4 : Int), .int .i64 (m8 : Int)] 54)).alloc (.cells #[] 54)) (by with_reducible rfl) (by rfl) (.tmp 122) (.tmp 123) (by rfl) w9 (.slice (some ⟨w9.heap.size + 1, 0, none⟩) 0 0) [] (u ++ [((n4 : Int), (n8 : Int))]) A2 U1 C2 w.heap.size w8.heap.size (by rfl) (by rfl) HU0.out (show Ow 54 w9 (.slice (some ⟨w9.heap.size + 1, 0, none⟩) 0 0) [] ((w9.alloc (.cells #[.int .i64 (m4 : Int), .int .i64 (m8 : Int)] 54)).alloc (.cells #[] 54)) by have h := HO9.out (w9.alloc (.cells #[.int .i64 (m4 : Int), .int .i64 (m8 : Int)] 54)) (below_new w9 _); rwa [size_alloc] at h) (HE9.out _ (below_more (below_new _ _) (below_new _ _))) HLL0.out ?_; intro V4 wa how4 hgr; rw [List.nil_append] at how4; obtain ⟨A4, C4, hV⟩ := own_form how4.own; rw [HUL1.out] at hV; subst hV;  have HO5 := Lib.hid how4; have HLT0 := Lib.hid (show Bx wa w9.heap.size 54 #[.int .i64 (m4 : Int), .int .i64 (m8 : Int)] from (hgr.block w9.heap.size (by simp; omega) (fun e => by have := Option.some.inj (show some w9.heap.size = some (w9.heap.size + 1) from e); omega)).trans ((Bx.new w9 54 #[.int .i64 (m4 : Int), .int .i64 (m8 : Int)]).later (below_new (w9.alloc (.cells #[.int .i64 (m4 : Int), .int .i64 (m8 : Int)] 54)) (.cells #[] 54)) (by simp))); clear how4 hgr HO9)
                        | (have hgate := HO4.out; clear hgate; refine step_app1_h Tryd.underlying41 rext_info (wa.alloc (.cells #[.int .i64 (m4 : Int), .int .i64 (m8 : Int)] 54)) (by with_reducible rfl) (by rfl) (.tmp 124) (.tmp 126) (by rfl) w9 (.slice A4 U1 C4) (u ++ [((n4 : Int), (n8 : Int))]) ((m4 : Int), (m8 : Int)) wa.heap.size (by rfl) (by rfl) HO4.out (Bx.new wa _ _) HLL1.out ?_; intro V5 wb how5; have hown5 := how5.own; rw [HUL2.out] at hown5; obtain ⟨A5, C5, hV, -, hex5, -⟩ := own_ex hown5; subst hV; have HSB := Lib.hid (HS9.out.below how5.be); have HME := Lib.hid (rmeets_any A5 U2 C5 _ _ _ wb (by have := HUB.out; omega) hex5 (Nat.le_refl _)); have HBB := Lib.hid how5.be; clear how5 hown5 hex5; clear HO4)
                        | (have hgate := HLT1.out; clear hgate; refine step_app1_h Tryd.underlying41 rext_info wa (by with_reducible rfl) (by rfl) (.tmp 124) (.tmp 126) (by rfl) w9 (.slice A4 U1 C4) (u ++ [((n4 : Int), (n8 : Int))]) ((m4 : Int), (m8 : Int)) (w9.heap.size + 1) (by rfl) (by rfl) HO5.out HLT1.out HLL1.out ?_; intro V5 wb how5; have hown5 := how5.own; rw [HUL2.out] at hown5; obtain ⟨A5, C5, hV, -, hex5, -⟩ := own_ex hown5; subst hV; have HSB := Lib.hid (HS9.out.below how5.be); have HME := Lib.hid (rmeets_any A5 U2 C5 _ _ _ wb (by have := HUB.out; omega) hex5 (Nat.le_refl _)); have HBB := Lib.hid how5.be; clear how5 hown5 hex5; clear HLT1)
                        | (have hgate := HLT0.out; clear hgate; refine step_app1_h Tryd.underlying41 rext_info wa (by with_reducible rfl) (by rfl) (.tmp 124) (.tmp 126) (by rfl) w9 (.slice A4 U1 C4) (u ++ [((n4 : Int), (n8 : Int))]) ((m4 : Int), (m8 : Int)) w9.heap.size (by rfl) (by rfl) HO5.out HLT0.out HLL1.out ?_; intro V5 wb how5; have hown5 := how5.own; rw [HUL2.out] at hown5; obtain ⟨A5, C5, hV, -, hex5, -⟩ := own_ex hown5; subst hV; have HSB := Lib.hid (HS9.out.below how5.be); have HME := Lib.hid (rmeets_any A5 U2 C5 _ _ _ wb (by have := HUB.out; omega) hex5 (Nat.le_refl _)); have HBB := Lib.hid how5.be; clear how5 hown5 hex5; clear HLT0)
                        | (have hgate := HME.out; clear hgate; go_simp; go_at_call 32; refine HME.out.mono ?_; rintro _ wc ⟨r, rfl, hr, hb⟩; have HR := hr; have HSC := Lib.hid (HSB.out.below hb); have HXC := Lib.hid (HX9.out.later (below_more HBB.out hb) HX9.out.lt); clear hb hr HME))
                      all_goals
                        clear x0 x1 x2 x3 t1 r1 r2
                        have HMX := Lib.hid (show r = false ↔ noMeet (u ++ [((n4 : Int), (n8 : Int))] ++ [((m4 : Int), (m8 : Int))]) from HR.out)
                        have HWC := Lib.hid (show ∃ W, W = wc from ⟨_, rfl⟩)
                        have e2 := HXC.out.cell 0
                        have e3 := HXC.out.cell 1
                        have e0 := HSC.out.x9.cell 0
                        have e1 := HSC.out.x9.cell 1
                        have f0 := HSC.out.x9.frozen 0
                        have f1 := HSC.out.x9.frozen 1
                        have HSD := Lib.hid (HSC.out.setX m4 m8)
                        have hnx := HSD.out.next m4 m8
                        rw [size_set2] at hnx
                        have HNEW := Lib.hid hnx
                        have d0 := HSD.out.x9.cell 0
                        have d1 := HSD.out.x9.cell 1
                        clear HR hnx
                        cases r
                        case true =>
                          have HNO := Lib.hid (show IsLoad8 bs ((a : Int), (s : Int)) 5 [] [] from HI.out.dies HWD.out (by decide) (.stop (by have := HLE.out; simp only; omega) HBK.out HNZ.out (fun h => absurd (HMX.out.mpr h.2.2) (by decide))))
                          clear d0 d1 e0 e1 e2 e3 f0 f1
                          go_wp2
                          go_ret3
                          exact LrP.no HNO.out HSC.out.be
                        case false =>
                          have HI5 := Lib.hid (show LdI bs ((a : Int), (s : Int)) true (u ++ [((n4 : Int), (n8 : Int))]) (al ++ p) ((m4 : Int), (m8 : Int)) from HI.out.more (by have := HLE.out; simp only; omega) (by have h1 := HPL.out; have h2 := HNR.out; have h3 := HCP.out; simp only; omega) HBK.out HNZ.out ⟨by have h1 := HFU.out; have h2 := HPL.out; have h3 := HCP.out; unfold capN; simp only; omega, HW2.out, HMX.out.mp rfl⟩)
                          go_wp2
                          go_roundw
                          case rel => exact ⟨_, _, _, m4, m8, rfl, HNEW.out, HI5, Lib.hid HQ7.out.symm⟩
                          case measure => simp only [len8]; have h1 := HI5.out.small.1; have h2 := HQ7.out; have h3 := HL.out; have h4 := HQ.out; have h5 := HPL.out; have h6 := HNR.out.1; rw [List.length_append] at h1 h2; omega
                    · rw [decide_eq_false hw2] at HWI2
                      have HNO := Lib.hid (show IsLoad8 bs ((a : Int), (s : Int)) 5 [] [] from HI.out.dies HWD.out (by decide) (.stop (by have := HLE.out; simp only; omega) HBK.out HNZ.out (fun h => hw2 h.2.1)))
                      clear hw2
                      obtain ⟨G, hGd⟩ : ∃ G : World → Prop, G = fun w' => Below w8.heap.size w8 w' := ⟨_, rfl⟩
                      have hG0 : G { w8 with drawn := w8.drawn + 1 } := by rw [hGd]; exact (Below.refl _ _).drew
                      have hG1 : Hid (∀ (s : Wof G) w2, Below s.val.heap.size s.val w2 → G w2) := Lib.hid (by subst hGd; exact fun s w2 hb2 => below_more s.is hb2)
                      have hG2 : Hid (∀ s : Wof G, Below w8.heap.size w8 s.val) := Lib.hid (by subst hGd; exact fun s => s.is)
                      have e0 : ∀ s : Wof G, s.val.cell? ⟨g9, 0, none⟩ = some (.int .i64 (n4 : Int)) := fun s => ((HS8.out.below (hG2.out s)).x9.cell 0)
                      have e1 : ∀ s : Wof G, s.val.cell? ⟨g9, 1, none⟩ = some (.int .i64 (n8 : Int)) := fun s => ((HS8.out.below (hG2.out s)).x9.cell 1)
                      have e2 : ∀ s : Wof G, s.val.cell? ⟨g19, 0, none⟩ = some (.int .i64 (m4 : Int)) := fun s => ((HX8.out.later (hG2.out s) HX8.out.lt).cell 0)
                      have e3 : ∀ s : Wof G, s.val.cell? ⟨g19, 1, none⟩ = some (.int .i64 (m8 : Int)) := fun s => ((HX8.out.later (hG2.out s) HX8.out.lt).cell 1)
                      have hne : Nonempty (Wof G) := ⟨⟨_, hG0⟩⟩
                      clear hGd
                      refine wp_region_kept (G := G) (by kernel_rfl) (by kernel_rfl) hG0 ?_
                      clear hG0
                      repeat (go_big_quiet_step (((go_at_call 31; refine (HWI2.out _).mono ?_; rintro _ w2 ⟨he, hb2⟩; exact ⟨he, ⟨w2, hG1.out _ _ hb2⟩, rfl⟩))))
                      refine wpQuiet_nil ?_
                      rintro _ ⟨s, rfl⟩
                      have HS9 := Lib.hid (HS8.out.below (hG2.out s))
                      obtain ⟨w9, hw9⟩ := s
                      change Hid (RdS w w9 _ _ _ _ _ _ _) at HS9
                      clear hG1 hG2 hne e0 e1 e2 e3
                      simp only
                      go_wp2
                      go_ret3
                      exact LrP.no HNO.out HS9.out.be
                · have HI5 := Lib.hid (show LdI bs ((a : Int), (s : Int)) false (u ++ [((n4 : Int), (n8 : Int))]) (al ++ p) ((m4 : Int), (m8 : Int)) from HI.out.last (by have := HLE.out; simp only; omega) (by have h1 := HPL.out; have h2 := HNR.out; have h3 := HCP.out; simp only; omega) (by rw [HBK.out, hmo.1, hmo.2]; rfl))
                  have HSH := Lib.hid (HI5.out.shut HWD.out)
                  obtain ⟨Ay, Cy, hV, hcy, hby⟩ := rowb_cap HS7.out.ra
                  rw [HQ7.out] at hV hcy hby
                  injection hV with q1 q2 q3
                  subst q1 q3
                  have HPR := Lib.hid (parse_any A7 Q7 C7 (al ++ p) w7 (by have h1 := HI5.out.small.1; have h2 := HL.out; have h3 := HM.out; have h4 := HQ7.out; omega) hcy hby)
                  clear hcy hby hmo
                  refine go_on ?_
                  go_wp2_with (go_at_call 39; refine HPR.out.mono ?_; (first | rintro _ w8 ⟨Al, nl, Cl, bl, l, rfl, hnl, hl9, hon, hps⟩ | rintro _ w8 ⟨Al, nl, Cl, bl, rfl, l, hnl, hl9, hon, hps⟩); refine Hid.out ?_)
                  have HS8 := Lib.hid (HS7.out.below hon.be)
                  have HMS := Lib.hid (hon.om.ms hnl)
                  clear hon hnl hl9 HPR
                  rcases hps with ⟨rfl, hps⟩ | ⟨rfl, hps⟩
                  · have HYS := Lib.hid (HSH.out.2 l hps)
                    obtain ⟨A2', C2', hV, -, hex, -⟩ := own_ex HS8.out.ru
                    rw [HUL1.out] at hV hex
                    injection hV with q1 q2 q3
                    subst q1 q3
                    have HEX := Lib.hid (hex.widen (Nat.zero_le _) (Nat.le_refl _))
                    clear hps hex
                    refine go_on ?_
                    go_wp2
                    go_ret3
                    first | exact ⟨Al, nl, Cl, A2, U1, C2, 0, l, _, rfl, HYS.out, HMS.out, HEX.out, HS8.out.be⟩ | exact ⟨_, _, _, _, _, _, _, _, _, rfl, HYS.out, HMS.out, HEX.out, HS8.out.be⟩
                  · have HNO := Lib.hid (HSH.out.1 hps)
                    clear hps
                    refine go_on ?_
                    go_wp2
                    go_ret3
                    exact LrP.no HNO.out HS8.out.be
          · have HNO := Lib.hid (HNO1.out (by have := HCP.out; omega))
            by_cases h0 : n0 = 0
            · subst h0
              have r1 := R1.out
              have r2 := R2.out
              have r4 := R4.out
              clear hnn
              refine go_on ?_
              go_wp2
              go_ret3
              exact LrP.no HNO.out HS6.out.be
            · have y1 : ¬ (n0 : Int) < 1 := by omega
              have y2 : (cp : Int) < (n0 : Int) := by omega
              have x0 := HS6.out.x9.cell 0
              have x1 := HS6.out.x9.cell 1
              have r1 := R1.out
              have r2 := R2.out
              have r4 := R4.out
              clear hnn h0
              refine go_on ?_
              go_wp2
              go_ret3
              exact LrP.no HNO.out HS6.out.be
  · rw [decide_eq_false hw] at HWI
    have HNO := Lib.hid (show IsLoad8 bs ((a : Int), (s : Int)) 2 [] [] from .inl ⟨hw, rfl, rfl, rfl⟩)
    clear hw hs ha
    go_enter Tryd.func22, Tryd.ntmps22
    go_wp2_with (go_at_call 31; refine HWI.out.mono ?_; rintro _ w1 ⟨rfl, hb1⟩; refine Hid.out ?_)
    have HB1 := Lib.hid (below_more HBN.out hb1)
    clear hb1
    refine go_on ?_
    go_wp2
    go_ret3
    exact LrP.no HNO.out HB1.out
end Go.Proofs.YtcgapkepbnbabaaDoor.X5
