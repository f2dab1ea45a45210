/- header.Load (printed by mkqi.py). -/
import Derived.Test.YtcgapkepbnbabaaDoorQh
import Derived.RegionDies
namespace Go.Proofs.YtcgapkepbnbabaaDoor.X5
set_option linter.unusedVariables false
set_option linter.unusedSimpArgs false
open Go.RowKit Wd Ty9

/-- What Load hands back. -/
def LdP (bs : List Nat) (x : Xt) (w : World) (e : Ending) (w' : World) : Prop :=
  ∃ Vl Vu z l used, e = .returned (.tuple #[Vl, Vu, .int .i64 z]) ∧ IsLoad8 bs x z l used ∧ On 56 w Vl l w' ∧ Ow 49 w Vu used w' ∧ l.length ≤ 65536
theorem LdP.no {bs : List Nat} {x : Xt} {w w' : World} {z : Int} (h : IsLoad8 bs x z [] []) (hb : Below w.heap.size w w') : LdP bs x w (.returned (.tuple #[.slice none 0 0, .slice none 0 0, .int .i64 z])) w' :=
  ⟨_, _, z, [], [], rfl, h, ⟨⟨[], World.ownsRow_nil _ _ _ _, rfl, fun i v x h => by simp at h⟩, hb⟩, ⟨World.ownsRow_nil _ _ _ _, hb⟩, Nat.zero_le _⟩
def len8 : Value → Nat
  | .slice _ n _ => n
  | _ => 0
theorem tot_len : ∀ u : List Xt, (∀ y ∈ u, wideP y) → (u.length : Int) * 17 ≤ tot u
  | [], _ => by simp [tot]
  | y :: u, h => by
    have h1 := h y (by simp)
    have h2 := tot_len u (fun z hz => h z (by simp [hz]))
    rw [tot_cons, List.length_cons]
    unfold wideP at h1
    omega
/-- What a Load has found. -/
def LdI (bs : List Nat) (x : Xt) (b : Bool) (u : List Xt) (al : List Nat) (y : Xt) : Prop :=
  (∀ z ∈ u, wideP z ∧ z.1 + z.2 ≤ (bs.length : Int)) ∧ (al.length : Int) ≤ tot u ∧ noMeet u ∧
    (b = true → wideP y ∧ noMeet (u ++ [y]) ∧ ∀ r, Chain bs u al y r → Chain bs [] [] x r) ∧ (b = false → Chain bs [] [] x (0, al, u))
theorem LdI.start {bs : List Nat} {x : Xt} (hw : wideP x) : LdI bs x true [] [] x :=
  ⟨fun z h => absurd h List.not_mem_nil, by simp [tot], List.Pairwise.nil, fun _ => ⟨hw, by simp [noMeet], fun r h => h⟩, fun h => absurd h (by decide)⟩
theorem LdI.small {bs : List Nat} {x y : Xt} {b : Bool} {u : List Xt} {al : List Nat} (h : LdI bs x b u al y) : al.length ≤ bs.length ∧ u.length * 17 ≤ bs.length := by
  have h1 := tot_le h.2.2.1 h.1
  have h2 := tot_len u (fun z hz => (h.1 z hz).1)
  have h3 := h.2.1
  omega
theorem LdI.grow {bs : List Nat} {x y y2 : Xt} {u : List Xt} {al p : List Nat} (h : LdI bs x true u al y) (hy : y.1 + y.2 ≤ (bs.length : Int)) (hp : (p.length : Int) ≤ y.2) :
    (∀ z ∈ u ++ [y], wideP z ∧ z.1 + z.2 ≤ (bs.length : Int)) ∧ ((al ++ p).length : Int) ≤ tot (u ++ [y]) ∧ noMeet (u ++ [y]) := by
  obtain ⟨h1, h2, h3, h4, _⟩ := h
  obtain ⟨h5, h6, _⟩ := h4 rfl
  refine ⟨fun z hz => ?_, by rw [tot_snoc, List.length_append]; omega, h6⟩
  rcases List.mem_append.mp hz with hz | hz
  · exact h1 z hz
  · obtain rfl := List.mem_singleton.mp hz
    exact ⟨h5, hy⟩
theorem LdI.last {bs : List Nat} {x y y2 : Xt} {u : List Xt} {al p : List Nat} (h : LdI bs x true u al y) (hy : y.1 + y.2 ≤ (bs.length : Int)) (hp : (p.length : Int) ≤ y.2) (hb : blockOf bs y = some (p, (0, 0))) : LdI bs x false (u ++ [y]) (al ++ p) y2 := by
  obtain ⟨k1, k2, k3⟩ := h.grow (y2 := y2) hy hp
  exact ⟨k1, k2, k3, fun h => absurd h (by decide), fun _ => (h.2.2.2.1 rfl).2.2 _ (.last hy hb)⟩
theorem LdI.more {bs : List Nat} {x y y2 : Xt} {u : List Xt} {al p : List Nat} (h : LdI bs x true u al y) (hy : y.1 + y.2 ≤ (bs.length : Int)) (hp : (p.length : Int) ≤ y.2) (hb : blockOf bs y = some (p, y2)) (hy2 : y2 ≠ (0, 0)) (hc : p.length = capN y ∧ wideP y2 ∧ noMeet (u ++ [y] ++ [y2])) : LdI bs x true (u ++ [y]) (al ++ p) y2 := by
  obtain ⟨k1, k2, k3⟩ := h.grow (y2 := y2) hy hp
  exact ⟨k1, k2, k3, fun _ => ⟨hc.2.1, hc.2.2, fun r hr => (h.2.2.2.1 rfl).2.2 _ (.more hy hb hy2 hc hr)⟩, fun h => absurd h (by decide)⟩
theorem LdI.dies {bs : List Nat} {x y : Xt} {u : List Xt} {al : List Nat} {z : Int} (h : LdI bs x true u al y) (hx : wideP x) (hz : z ≠ 0) (hc : Chain bs u al y (z, [], [])) : IsLoad8 bs x z [] [] :=
  .inr ⟨hx, _, (h.2.2.2.1 rfl).2.2 _ hc, .inl ⟨hz, rfl, rfl, rfl⟩⟩
theorem LdI.shut {bs : List Nat} {x y : Xt} {u : List Xt} {al : List Nat} (h : LdI bs x false u al y) (hx : wideP x) : (parseS al = none → IsLoad8 bs x 5 [] []) ∧ ∀ l, parseS al = some l → IsLoad8 bs x 0 l u :=
  ⟨fun hn => .inr ⟨hx, _, h.2.2.2.2 rfl, .inr ⟨rfl, .inl ⟨hn, rfl, rfl, rfl⟩⟩⟩, fun l hl => .inr ⟨hx, _, h.2.2.2.2 rfl, .inr ⟨rfl, .inr ⟨hl, rfl, rfl⟩⟩⟩⟩
/-- The world of Load's variables. -/
abbrev W4 (w : World) (a s : Nat) : World := (((w.alloc (.cells #[.int .i64 (a : Int), .int .i64 (s : Int)] 49)).alloc (.cells #[.slice none 0 0] 22)).alloc (.cells #[.slice none 0 0] 34)).alloc (.cells #[.int .i64 0] 25)
theorem w4_facts (w : World) (a s : Nat) : (W4 w a s).heap.size = w.heap.size + 4 ∧ Below w.heap.size w (W4 w a s) ∧ Bx (W4 w a s) w.heap.size 49 #[.int .i64 (a : Int), .int .i64 (s : Int)] ∧ Bx (W4 w a s) (w.heap.size + 1) 22 #[.slice none 0 0] ∧ Bx (W4 w a s) (w.heap.size + 2) 34 #[.slice none 0 0] ∧ Bx (W4 w a s) (w.heap.size + 3) 25 #[.int .i64 0] := by
  have h1 : ∀ (v : World) (o : Obj), Below v.heap.size v (v.alloc o) := below_new
  refine ⟨by simp, below_more (below_more (below_more (h1 _ _) (h1 _ _)) (h1 _ _)) (h1 _ _), ?_, ?_, ?_, ?_⟩
  · exact (((Bx.new w _ _).later (h1 _ _) (by simp)).later (h1 _ _) (by simp only [size_alloc]; omega)).later (h1 _ _) (by simp only [size_alloc]; omega)
  · exact (((Bx.new2 w _ _ _).later (h1 _ _) (by simp only [size_alloc]; omega)).later (h1 _ _) (by simp only [size_alloc]; omega))
  · have := (Bx.new2 (w.alloc (.cells #[.int .i64 (a : Int), .int .i64 (s : Int)] 49)) (.cells #[.slice none 0 0] 22) 34 #[.slice none 0 0])
    rw [size_alloc] at this
    exact this.later (h1 _ _) (by simp only [size_alloc]; omega)
  · have := (Bx.new2 ((w.alloc (.cells #[.int .i64 (a : Int), .int .i64 (s : Int)] 49)).alloc (.cells #[.slice none 0 0] 22)) (.cells #[.slice none 0 0] 34) 25 #[.int .i64 0])
    rw [size_alloc, size_alloc] at this
    exact this

theorem LdS.three {w wr : World} {Vu Va : Value} {u : List Xt} {al : List Nat} {g8 n4 n8 : Nat} (h : LdS w wr Vu Va u al g8 n4 n8) : wr.cell? ⟨g8, 0, none⟩ = some (.int .i64 (n4 : Int)) ∧ wr.cell? ⟨g8, 1, none⟩ = some (.int .i64 (n8 : Int)) ∧ wr.cell? ⟨w.heap.size + 1 + 1, 0, none⟩ = some Vu := ⟨h.x8.cell 0, h.x8.cell 1, h.c5.cell 0⟩
/-- An extent is appended where there is no room. -/
theorem step_growX {t e : TypeId} (ht : Tryd.prog.underlying t = some (.slice e)) (hinf : (Tryd.prog.info? e).map (fun i => (i.zero, i.size, i.bytes)) = some (some (.agg #[.int .i64 0, .int .i64 0]), 2, 16))
    {ops : Array Oper} {o : Oper} {a : Act} {w : World} {K : Act → World → Prop} {Q : Exit → Act → World → Prop} {E : Prop} (hw : Region.wanted o (yielded ops a.tmps) = true) (s x : Operand)
    (ho : o.op = .call { callee := .builtin .append, args := #[s, x], argTypes := #[t, t] })
    (W : World) (hW : w = W) (A : Option Addr) (n lo hi g : Nat) (out : List Xt) (y : Xt) (hs : a.eval s = .slice A n n) (hx : a.eval x = .slice (some ⟨g, 0, none⟩) 1 1) (hn : 0 < n) (h : Ex W lo hi A n out) (hb : Bx W g e #[.int .i64 y.1, .int .i64 y.2]) (hl : (n + 1) * 16 ≤ 140737488355328)
    (hK : ∀ V' w', w'.ownsRow W.heap.size e 2 V' (n + 1) (cl (out ++ [y])) → W.grownBy w' none → K (a.put o.dst V') w') :
    if Region.wanted o (yielded ops a.tmps) = true then Oper.wp Tryd.prog o a w K Q else E := by
  subst hW
  rw [if_pos hw]
  obtain ⟨i0, hi0, hz, hs0, hbt⟩ := info_parts hinf
  obtain ⟨b, f, rfl, _, _, h3⟩ := h.at_ hn
  have hadd : ∀ j, (⟨b, f, none⟩ : Addr).add j = ⟨b, f + j, none⟩ := fun j => by unfold Addr.add; split <;> simp_all
  obtain ⟨v', w', hrun, r1, r2⟩ := run_append_arg_grows (P := Tryd.prog) w t o.type e i0 _ 2 16 ht hi0 hz hs0 hbt (by rfl) (by decide) ⟨b, f, none⟩ n n (cl out) (by rw [cl_len, h.len]) (fun j u hu => by rw [hadd]; exact h3 j u hu) ⟨g, 0, none⟩ 1 1 [.int .i64 y.1, .int .i64 y.2] (by rfl) (World.news_of_block hb) (by omega) (by unfold maxLen; omega) hl
  unfold Oper.wp execOp
  simp only [ho, resolve, invoke, builtin, Sem.run_bind, Sem.run_pure, Result.andThen_ok, List.map_toArray, List.map_cons, List.map_nil, hs, hx, hrun]
  exact hK v' w' (by rw [cl_app]; exact r1) r2
/-- A row of messages of the call's own, whatever happens below its base. -/
def OnR (e : TypeId) (base : Nat) (V : Value) (out : List Mg) (wr : World) : Prop :=
  ∃ vs : List (Int × Value), wr.ownsRow base e 2 V out.length (mcl vs) ∧ vs.length = out.length ∧ ∀ (i : Nat) (v : Int × Value) (x : Mg), vs[i]? = some v → out[i]? = some x →
    v.1 = x.1 ∧ (∃ A c, v.2 = .slice A x.2.length c ∧ x.2.length ≤ c) ∧ RowB wr base v.2 x.2 ∧ x.2.length ≤ 140737488355328 ∧ (∀ k, v.2.ownBlock = some k → V.ownBlock ≠ some k)
theorem own_low {wr : World} {base n g : Nat} {e : TypeId} {size : Nat} {V : Value} {xs : List Value} {v : Value} (h : wr.ownsRow base e size V n xs) (hg : g < base) : (wr.setCell ⟨g, 0, none⟩ v).ownsRow base e size V n xs :=
  h.kept (row := some g) ⟨rfl, rfl, rfl, by simp [World.setCell], fun k hk hk2 => Below.heap_setCell _ _ _ _ (fun e => hk2 (by rw [e]))⟩ (.inr (fun e => by have := (h.lt _ e).1; omega))
theorem OnR.low {e : TypeId} {base g : Nat} {V : Value} {out : List Mg} {wr : World} {v : Value} (h : OnR e base V out wr) (hg : g < base) : OnR e base V out (wr.setCell ⟨g, 0, none⟩ v) := by
  obtain ⟨vs, ho, hl, hel⟩ := h
  refine ⟨vs, own_low ho hg, hl, fun i v' x hv hx => ?_⟩
  obtain ⟨h1, h2, h3, h4, h5⟩ := hel i v' x hv hx
  exact ⟨h1, h2, ⟨own_low h3.own hg, h3.lt⟩, h4, h5⟩
theorem OnR.on {e : TypeId} {base : Nat} {V : Value} {out : List Mg} {w wr : World} (h : OnR e base V out wr) (hb : w.heap.size ≤ base) (hbe : Below w.heap.size w wr) : On e w V out wr := by
  obtain ⟨vs, ho, hl, hel⟩ := h
  refine ⟨⟨vs, own_base ho hb, hl, fun i v' x hv hx => ?_⟩, hbe⟩
  obtain ⟨h1, h2, h3, h4, h5⟩ := hel i v' x hv hx
  exact ⟨h1, h2, h3.up hb, h4, h5⟩
/-- The closure lays the variables anew. -/
theorem dies_cells {w wX : World} {Vu Va : Value} {u : List Xt} {al : List Nat} {g8 n4 n8 : Nat} (h : LdS w wX Vu Va u al g8 n4 n8) (z : Int) :
    let wf := ((wX.setCell ⟨w.heap.size + 1, 0, none⟩ (.slice none 0 0)).setCell ⟨w.heap.size + 1 + 1, 0, none⟩ (.slice none 0 0)).setCell ⟨w.heap.size + 1 + 1 + 1, 0, none⟩ (.int .i64 z)
    wf.cell? ⟨w.heap.size + 1, 0, none⟩ = some (.slice none 0 0) ∧ wf.cell? ⟨w.heap.size + 1 + 1, 0, none⟩ = some (.slice none 0 0) ∧ wf.cell? ⟨w.heap.size + 1 + 1 + 1, 0, none⟩ = some (.int .i64 z) ∧ Below w.heap.size w wf := by
  refine ⟨(bx_set (bx_set (h.c4.set_ 0 (.slice none 0 0)) (by omega)) (by omega)).cell 0, (bx_set ((bx_set h.c5 (by omega)).set_ 0 (.slice none 0 0)) (by omega)).cell 0, ((bx_set (bx_set h.c6 (by omega)) (by omega)).set_ 0 (.int .i64 z)).cell 0, ?_⟩
  exact ((h.be.setCell (p := ⟨w.heap.size + 1, 0, none⟩) (by show w.heap.size ≤ w.heap.size + 1; omega) _).setCell (p := ⟨w.heap.size + 1 + 1, 0, none⟩) (by show w.heap.size ≤ w.heap.size + 1 + 1; omega) _).setCell (p := ⟨w.heap.size + 1 + 1 + 1, 0, none⟩) (by show w.heap.size ≤ w.heap.size + 1 + 1 + 1; omega) _

set_option maxHeartbeats 8000000 in
set_option maxRecDepth 100000 in
theorem load8_any (A : Option Addr) (m c a s : Nat) (bs : List Nat) (w : World) (hm : m ≤ 4194304) (hc : m ≤ c) (hb : Byt w w.heap.size A m bs) (hs : s ≤ 9223372036854775807) (ha : a ≤ 9223372036854775807) (hG : Gs w) :
    Calls Tryd.prog 21 #[.slice A m c, .agg #[.int .i64 (a : Int), .int .i64 (s : Int)]] w fun e w' => LdP bs ((a : Int), (s : Int)) w e w' := by
  have hmf : ∀ (fn : Fn) (first cap : Array Value) (w : World), (Instr.makeFunc fn first cap).run Tryd.prog w = .ok (.func fn first cap) w := fun _ _ _ _ => rfl
  have hl := hb.len
  have HBY := Lib.hid hb
  have HG := Lib.hid hG
  have HL := Lib.hid hl
  have HM := Lib.hid (And.intro hm hc)
  obtain ⟨hw0, hw1, hw3, hw4, hw5, hw6⟩ := w4_facts w a s
  have HW0 := Lib.hid hw0
  have HW1 := Lib.hid hw1
  have HWI := Lib.hid (wide_any ((a : Int), (s : Int)) (W4 w a s))
  have HX0 := Lib.hid (And.intro hw3 (And.intro hw4 (And.intro hw5 hw6)))
  clear hb hG hl hw0 hw1 hw3 hw4 hw5 hw6 hm hc
  by_cases hw : wideP ((a : Int), (s : Int))
  · rw [decide_eq_true hw] at HWI
    have HWD := Lib.hid hw
    clear hw hs ha
    go_enter_defers Tryd.func21, Tryd.ntmps21
    go_wp2_with (go_at_call 27; refine HWI.out.mono ?_; rintro _ w1 ⟨rfl, hb1⟩; refine Hid.out ?_)
    have HB1 := Lib.hid (below_more HW1.out hb1)
    obtain ⟨q3, q4, q5, q6⟩ := HX0.out
    have e3 := q3.later hb1 q3.lt
    have e4 := q4.later hb1 q4.lt
    have e5 := q5.later hb1 q5.lt
    have e6 := q6.later hb1 q6.lt
    have c0 := e3.cell 0
    have c1 := e3.cell 1
    have HS1 := Lib.hid (show LdS w (w1.alloc (.cells #[.int .i64 (a : Int), .int .i64 (s : Int)] 49)) (.slice none 0 0) (.slice none 0 0) [] [] w1.heap.size a s from by
      have hn := below_new w1 (.cells #[.int .i64 (a : Int), .int .i64 (s : Int)] 49)
      have hsz := HW0.out
      have h1 := hb1.size
      exact ⟨below_more HB1.out hn, e4.later hn e4.lt, e5.later hn e5.lt, e6.later hn e6.lt, World.ownsRow_nil _ _ _ _, RowB.nil _ _, Bx.new _ _ _, by omega, fun e => (nomatch e), fun e => (nomatch e), fun k e => (nomatch e)⟩)
    clear hb1 q3 q4 q5 q6 e3 e4 e5 e6
    refine go_on ?_
    go_wp2
    go_loopw [7, 8, 9] (fun va p8 mo wr => ∃ (Vu : Value) (u : List Xt) (al : List Nat) (g8 n4 n8 : Nat) (b : Bool), p8 = .pointer (some ⟨g8, 0, none⟩) ∧ mo = .bool b ∧ LdS w wr Vu va u al g8 n4 n8 ∧ Hid (LdI bs ((a : Int), (s : Int)) b u al ((n4 : Int), (n8 : Int))) ∧ Hid (len8 va = al.length)) (fun va _ _ _ => m - len8 va)
    case atStart => exact ⟨_, [], [], _, a, s, true, rfl, rfl, HS1.out, Lib.hid (LdI.start HWD.out), Lib.hid rfl⟩
    case round =>
      obtain ⟨Vu, u, al, g8, n4, n8, b, rfl, rfl, hst, HI, HLN⟩ := hrel
      have HST := Lib.hid hst
      obtain ⟨Au, Cu, rfl⟩ := own_form hst.ru
      obtain ⟨Aa, Ca, rfl⟩ := own_form hst.ra.own
      obtain ⟨U, hU⟩ : ∃ U, u.length = U := ⟨_, rfl⟩
      obtain ⟨Q, hQ⟩ : ∃ Q, al.length = Q := ⟨_, rfl⟩
      rw [hU, hQ] at HST
      rw [hU, hQ] at hst
      rw [hQ]
      have HU := Lib.hid hU
      have HQ := Lib.hid hQ
      clear HLN hU hQ
      cases b
      case false =>
        have HB := Lib.hid hst.be
        obtain ⟨Va', cva, hV, hca, hbya⟩ := rowb_cap hst.ra
        rw [HQ.out] at hV hca hbya
        injection hV with e1 e2 e3
        subst e1 e3
        have HMS := Lib.hid (fun (W : World) (hbe : Below wr.heap.size wr W) => messages_any Aa Q Ca al W (by have h1 := HI.out.small.1; have h2 := HL.out; have h3 := HM.out; have h4 := HQ.out; omega) hca ((hbya.later hbe).up hbe.size))
        have hst := HST.out
        have HSH := Lib.hid (HI.out.shut HWD.out)
        have d5 := hst.c5.cell 0
        clear hca hbya hst
        rcases hps : parseS al with _ | l
        · have HNO := Lib.hid (HSH.out.1 hps)
          have HMP := Lib.hid (fun (W : World) (hbe : Below wr.heap.size wr W) => show Calls Tryd.prog 36 #[.slice Aa Q Ca] W (fun e w' => e = .panicked [{ v := .iface 25 (.int .i64 5), recovered := false }] ∧ Below W.heap.size W w') from (HMS.out W hbe).mono fun e w' ⟨h1, h2⟩ => by
            rcases h2 with ⟨V, l, _, h3, _⟩ | ⟨_, h3⟩
            · rw [hps] at h3; cases h3
            · exact ⟨h3, h1⟩)
          clear hps
          go_upto_region 15 with fail
          refine wp_region_any (by kernel_rfl) ?_
          change wpAny _ _ _ _ _ _ _ (World.drew _)
          refine wpAny_ready (rs := [0, 2]) (by kernel_rfl) (by simp) ?_
          refine AllReady.cons rfl (fun K hK => ?_) ?_
          · go_simp
            refine hK _ _ ?_
            clear hK K
            refine wpAny_ready (rs := [1, 2]) (by kernel_rfl) (by simp) ?_
            refine AllReady.cons rfl (fun K hK => ?_) ?_
            · go_simp
              refine (HMP.out _ ((Below.refl _ _).drew)).mono ?_
              rintro _ w2 ⟨rfl, hb2⟩
              have HS2 := Lib.hid (HST.out.below (below_more ((Below.refl _ _).drew) hb2))
              clear hb2
              obtain ⟨v4, v5, v6, hbf⟩ := dies_cells HS2.out 5
              have HBF := Lib.hid hbf
              refine leaves_cons (f := 34) (args := #[.pointer (some ⟨w.heap.size + 1, 0, none⟩), .pointer (some ⟨w.heap.size + 1 + 1, 0, none⟩), .pointer (some ⟨w.heap.size + 1 + 1 + 1, 0, none⟩)]) (by simp) (by simp [go_sem]) ?_
              refine (catch_pan _ _ _ _ _ _ 5 [] _ HS2.out.c4 HS2.out.c5 HS2.out.c6 (by omega) (by omega) (by omega)).mono ?_
              rintro e u' w'' ⟨rfl, rfl, rfl⟩
              refine ⟨.tuple #[.slice none 0 0, .slice none 0 0, .int .i64 5], ?_, LdP.no HNO.out HBF.out⟩
              simp [results, Tryd.results21, go_sem, v4, v5, v6]
            · refine AllReady.cons rfl (fun K hK => ?_) AllReady.nil
              go_simp
              refine hK _ _ ?_
              clear hK K
              refine wpAny_ready (rs := [1]) (by kernel_rfl) (by simp) ?_
              refine AllReady.cons rfl (fun K hK => ?_) AllReady.nil
              go_simp
              refine (HMP.out _ ((Below.refl _ _).drew)).mono ?_
              rintro _ w2 ⟨rfl, hb2⟩
              have HS2 := Lib.hid (HST.out.below (below_more ((Below.refl _ _).drew) hb2))
              clear hb2
              obtain ⟨v4, v5, v6, hbf⟩ := dies_cells HS2.out 5
              have HBF := Lib.hid hbf
              refine leaves_cons (f := 34) (args := #[.pointer (some ⟨w.heap.size + 1, 0, none⟩), .pointer (some ⟨w.heap.size + 1 + 1, 0, none⟩), .pointer (some ⟨w.heap.size + 1 + 1 + 1, 0, none⟩)]) (by simp) (by simp [go_sem]) ?_
              refine (catch_pan _ _ _ _ _ _ 5 [] _ HS2.out.c4 HS2.out.c5 HS2.out.c6 (by omega) (by omega) (by omega)).mono ?_
              rintro e u' w'' ⟨rfl, rfl, rfl⟩
              refine ⟨.tuple #[.slice none 0 0, .slice none 0 0, .int .i64 5], ?_, LdP.no HNO.out HBF.out⟩
              simp [results, Tryd.results21, go_sem, v4, v5, v6]
          · refine AllReady.cons rfl (fun K hK => ?_) AllReady.nil
            go_simp
            refine hK _ _ ?_
            clear hK K
            refine wpAny_ready (rs := [0]) (by kernel_rfl) (by simp) ?_
            refine AllReady.cons rfl (fun K hK => ?_) AllReady.nil
            go_simp
            refine hK _ _ ?_
            clear hK K
            refine wpAny_ready (rs := [1]) (by kernel_rfl) (by simp) ?_
            refine AllReady.cons rfl (fun K hK => ?_) AllReady.nil
            go_simp
            refine (HMP.out _ ((Below.refl _ _).drew)).mono ?_
            rintro _ w2 ⟨rfl, hb2⟩
            have HS2 := Lib.hid (HST.out.below (below_more ((Below.refl _ _).drew) hb2))
            clear hb2
            obtain ⟨v4, v5, v6, hbf⟩ := dies_cells HS2.out 5
            have HBF := Lib.hid hbf
            refine leaves_cons (f := 34) (args := #[.pointer (some ⟨w.heap.size + 1, 0, none⟩), .pointer (some ⟨w.heap.size + 1 + 1, 0, none⟩), .pointer (some ⟨w.heap.size + 1 + 1 + 1, 0, none⟩)]) (by simp) (by simp [go_sem]) ?_
            refine (catch_pan _ _ _ _ _ _ 5 [] _ HS2.out.c4 HS2.out.c5 HS2.out.c6 (by omega) (by omega) (by omega)).mono ?_
            rintro e u' w'' ⟨rfl, rfl, rfl⟩
            refine ⟨.tuple #[.slice none 0 0, .slice none 0 0, .int .i64 5], ?_, LdP.no HNO.out HBF.out⟩
            simp [results, Tryd.results21, go_sem, v4, v5, v6]
        · have HYS := Lib.hid (HSH.out.2 l hps)
          have HMP := Lib.hid (fun (W : World) (hbe : Below wr.heap.size wr W) => show Calls Tryd.prog 36 #[.slice Aa Q Ca] W (fun e w' => ∃ A9 n9 C9, e = .returned (.slice A9 n9 C9) ∧ l.length = n9 ∧ l.length ≤ 65536 ∧ On 56 W (.slice A9 n9 C9) l w') from (HMS.out W hbe).mono fun e w' ⟨h1, h2⟩ => by
            rcases h2 with ⟨V, l', h4, h3, h5, h6⟩ | ⟨h3, _⟩
            · rw [hps] at h3
              obtain rfl := Option.some.inj h3
              obtain ⟨A9, C9, e9⟩ := h6.form
              subst e9
              exact ⟨A9, _, C9, h4, rfl, h5, h6⟩
            · rw [hps] at h3; cases h3)
          clear hps
          go_upto_region 15 with fail
          go_region_held3 (fun w' => w'.cell? ⟨w.heap.size + 1 + 1, 0, none⟩ = some (.slice Au U Cu))
            (first
              | (with_reducible exact c5c)
              | (with_reducible exact c5b)
              | (with_reducible exact c5a)
              | (with_reducible exact d5)
              | go_keep)
            (first
              | (go_at_call 36; refine (HMP.out _ ((Below.refl _ _).drew)).mono ?_; rintro _ w2 ⟨A9, n9, C9, rfl, hn9, hl9, hon⟩; have HS2 := Lib.hid (HST.out.below (below_more ((Below.refl _ _).drew) hon.be)); have HN9 := Lib.hid (And.intro hn9 hl9); have HOR := Lib.hid (show OnR 56 wr.heap.size (.slice A9 n9 C9) l w2 from hon.ex); have c4a := HS2.out.c4.cell 0; have f4a := HS2.out.c4.frozen 0; have c5a := HS2.out.c5.cell 0; have b5 := bx_set (k := w.heap.size + 1) (i := 0) (u := .slice A9 n9 C9) HS2.out.c5 (by omega); have c5b := b5.cell 0; have f5b := b5.frozen 0; have b6 := bx_set (k := w.heap.size + 1 + 1) (i := 0) (u := .slice Au U Cu) (bx_set (k := w.heap.size + 1) (i := 0) (u := .slice A9 n9 C9) HS2.out.c6 (by omega)) (by omega); have c6c := b6.cell 0; have f6c := b6.frozen 0; have c5c := (b5.set_ 0 (.slice Au U Cu)).cell 0; clear hon hn9 hl9 b5 b6))
          have HOF := Lib.hid (((HOR.out.low (g := w.heap.size + 1) (v := .slice A9 n9 C9) (by have := HST.out.c6.lt; omega)).low (g := w.heap.size + 1 + 1) (v := .slice Au U Cu) (by have := HST.out.c6.lt; omega)).low (g := w.heap.size + 1 + 1 + 1) (v := .int .i64 0) (by have := HST.out.c6.lt; omega))
          have HUF := Lib.hid (own_low (g := w.heap.size + 1 + 1 + 1) (v := .int .i64 0) (own_low (g := w.heap.size + 1 + 1) (v := .slice Au U Cu) (own_low (g := w.heap.size + 1) (v := .slice A9 n9 C9) HS2.out.ru (by omega)) (by omega)) (by omega))
          have HBF := Lib.hid (((HS2.out.be.setCell (p := ⟨w.heap.size + 1, 0, none⟩) (by show w.heap.size ≤ w.heap.size + 1; omega) (.slice A9 n9 C9)).setCell (p := ⟨w.heap.size + 1 + 1, 0, none⟩) (by show w.heap.size ≤ w.heap.size + 1 + 1; omega) (.slice Au U Cu)).setCell (p := ⟨w.heap.size + 1 + 1 + 1, 0, none⟩) (by show w.heap.size ≤ w.heap.size + 1 + 1 + 1; omega) (.int .i64 0))
          have v4 := (bx_set (k := w.heap.size + 1 + 1 + 1) (i := 0) (u := .int .i64 0) (bx_set (k := w.heap.size + 1 + 1) (i := 0) (u := .slice Au U Cu) (HS2.out.c4.set_ 0 (.slice A9 n9 C9)) (by omega)) (by omega)).cell 0
          have v5 := (bx_set (k := w.heap.size + 1 + 1 + 1) (i := 0) (u := .int .i64 0) ((bx_set (k := w.heap.size + 1) (i := 0) (u := .slice A9 n9 C9) HS2.out.c5 (by omega)).set_ 0 (.slice Au U Cu)) (by omega)).cell 0
          have v6 := ((bx_set (k := w.heap.size + 1 + 1) (i := 0) (u := .slice Au U Cu) (bx_set (k := w.heap.size + 1) (i := 0) (u := .slice A9 n9 C9) HS2.out.c6 (by omega)) (by omega)).set_ 0 (.int .i64 0)).cell 0
          clear c4a f4a c5a c5b f5b c6c f6c c5c d5
          generalize ((w2.setCell ⟨w.heap.size + 1, 0, none⟩ (.slice A9 n9 C9)).setCell ⟨w.heap.size + 1 + 1, 0, none⟩ (.slice Au U Cu)).setCell ⟨w.heap.size + 1 + 1 + 1, 0, none⟩ (.int .i64 0) = wf at *
          go_wp2
          refine leaves_cons (f := 34) (args := #[.pointer (some ⟨w.heap.size + 1, 0, none⟩), .pointer (some ⟨w.heap.size + 1 + 1, 0, none⟩), .pointer (some ⟨w.heap.size + 1 + 1 + 1, 0, none⟩)]) (by simp) (by simp [go_sem]) ?_
          refine (catch_idle _ _ _ _).mono ?_
          rintro e u' w'' ⟨rfl, rfl, rfl⟩
          refine ⟨.tuple #[.slice A9 n9 C9, .slice Au U Cu, .int .i64 0], ?_, ⟨_, _, 0, l, u, rfl, HYS.out, HOF.out.on HB.out.size HBF.out, ⟨own_base HUF.out (by omega), HBF.out⟩, HN9.out.2⟩⟩
          simp [results, Tryd.results21, go_sem, v4, v5, v6]
      case true =>
        have d5 := hst.c5.cell 0
        have x0 := hst.x8.cell 0
        have x1 := hst.x8.cell 1
        have HBN := Lib.hid (below_new wr (.cells #[.int .i64 (n4 : Int), .int .i64 (n8 : Int)] 49))
        have HSN := Lib.hid (hst.below HBN.out)
        have HUL := Lib.hid HI.out.small
        clear hst
        go_wp2_with (at_builtin; refine wp_pushX Tryd.underlying34 ext_info (by rfl) (.tmp 17) (.tmp 19) (by rfl) (w.heap.size + 4) (.slice Au U Cu) u ((n4 : Int), (n8 : Int)) wr.heap.size (by rfl) (by rfl) HSN.out.ru (Bx.new wr _ _) (by have h1 := HSN.out.c6.lt; omega) (by have h1 := HUL.out; have h2 := HM.out; have h3 := HL.out; omega) ?_; intro V2 w2 hown2 hgr2 how2; refine Hid.out ?_)
        have HS2 := Lib.hid (HSN.out.pushU hgr2 hown2 how2)
        have k5 : w2.cell? ⟨w.heap.size + 1 + 1, 0, none⟩ = some (.slice Au U Cu) := (bx_grown HSN.out.c5 hgr2 (fun e => by have := (HSN.out.ru.lt _ e).1; omega)).cell 0
        have f5 : w2.frozen? ⟨w.heap.size + 1 + 1, 0, none⟩ = false := (bx_grown HSN.out.c5 hgr2 (fun e => by have := (HSN.out.ru.lt _ e).1; omega)).frozen 0
        obtain ⟨A2, C2, hV⟩ := own_form hown2
        have hul : (u ++ [((n4 : Int), (n8 : Int))]).length = U + 1 := by rw [List.length_append, HU.out]; rfl
        obtain ⟨U1, hU1⟩ : ∃ U1, U + 1 = U1 := ⟨_, rfl⟩
        rw [hU1] at hul
        rw [hul] at hV
        subst hV
        have HUL1 := Lib.hid hul
        have j0 := HS2.out.x8.cell 0
        have j1 := HS2.out.x8.cell 1
        obtain ⟨w3, hw3⟩ : ∃ w3, w2.setCell ⟨w.heap.size + 1 + 1, 0, none⟩ (.slice A2 U1 C2) = w3 := ⟨_, rfl⟩
        rw [hw3] at HS2 j0 j1
        have HWY := Lib.hid (HI.out.2.2.2.1 rfl).1
        have HRD := Lib.hid (read_any A m c n4 n8 bs w3 (by have := HM.out; omega) HM.out.2 ((HBY.out.later HS2.out.be).up HS2.out.be.size) (by have := HWY.out; unfold wideP at this; simp only at this; omega) (by have := HWY.out; unfold wideP at this; simp only at this; omega) (by have := HWY.out; unfold wideP at this; simp only at this; omega) (HG.out.later HS2.out.be (Nat.le_refl _)))
        clear d5 x0 x1 hown2 hgr2 how2 hul hU1 HBN HSN
        refine go_on ?_
        go_wp2_with (go_at_call 35; refine HRD.out.mono ?_; rintro e w4 hp; refine Hid.out ?_)
        case h_2 =>
          obtain ⟨hb4, ⟨A4, c4, p, m4, m8, b, e, -⟩ | ⟨z, e, hz⟩⟩ := hp
          · cases e
          cases e
          have HS4 := Lib.hid (HS2.out.below hb4)
          have HNO := Lib.hid (show IsLoad8 bs ((a : Int), (s : Int)) z [] [] by
            rcases hz with ⟨rfl, h1⟩ | ⟨rfl, h1, h2⟩
            · exact HI.out.dies HWD.out (by decide) (.short (by simp only; omega))
            · rcases h2 with h2 | ⟨p, k4, k8, h2, h3, h4⟩
              · exact HI.out.dies HWD.out (by decide) (.bad (by simp only; omega) h2)
              · refine HI.out.dies HWD.out (by decide) (.stop (by simp only; omega) h2 (fun e => h3 ?_) (fun h => h4 ?_))
                · have e1 := congrArg Prod.fst e
                  have e2 := congrArg Prod.snd e
                  simp only at e1 e2
                  omega
                · rw [h.1]; unfold capN; simp only; omega)
          clear hb4 hz
          refine go_on ?_
          obtain ⟨v4, v5, v6, hbf⟩ := dies_cells HS4.out z
          have HBF := Lib.hid hbf
          refine leaves_cons (f := 34) (args := #[.pointer (some ⟨w.heap.size + 1, 0, none⟩), .pointer (some ⟨w.heap.size + 1 + 1, 0, none⟩), .pointer (some ⟨w.heap.size + 1 + 1 + 1, 0, none⟩)]) (by simp) (by simp [go_sem]) ?_
          refine (catch_pan _ _ _ _ _ _ z [] _ HS4.out.c4 HS4.out.c5 HS4.out.c6 (by omega) (by omega) (by omega)).mono ?_
          rintro e u' w'' ⟨rfl, rfl, rfl⟩
          refine ⟨.tuple #[.slice none 0 0, .slice none 0 0, .int .i64 z], ?_, LdP.no HNO.out HBF.out⟩
          simp [results, Tryd.results21, go_sem, v4, v5, v6]
        case h_3 =>
          obtain ⟨hb4, ⟨A4, c4, p, m4, m8, b, e, -⟩ | ⟨z, e, -⟩⟩ := hp
          · cases e
          · cases e
        case h_1 =>
          obtain ⟨hb4, ⟨A4, c4, p, m4, m8, b, e, hle, hblk, hby, hpc, hp1, hps, hm4, hm8, hbb, hbc, hfr⟩ | ⟨z, e, -⟩⟩ := hp
          rotate_left
          · cases e
          cases e
          have HBB := Lib.hid (And.intro hbb hbc)
          have HBLK := Lib.hid hblk
          have HLE := Lib.hid hle
          have HMM := Lib.hid (And.intro hm4 hm8)
          have HS4 := Lib.hid (HS2.out.below hb4)
          have HSX := Lib.hid (HS4.out.setX m4 m8)
          have g80 := HS4.out.x8.cell 0
          have g81 := HS4.out.x8.cell 1
          have f80 := HS4.out.x8.frozen 0
          have f81 := HS4.out.x8.frozen 1
          have HPB := Lib.hid (And.intro hp1 hps)
          have HBYP := Lib.hid (show Byt ((w4.setCell ⟨g8, 0, none⟩ (.int .i64 (m4 : Int))).setCell ⟨g8, 1, none⟩ (.int .i64 (m8 : Int))) ((w4.setCell ⟨g8, 0, none⟩ (.int .i64 (m4 : Int))).setCell ⟨g8, 1, none⟩ (.int .i64 (m8 : Int))).heap.size A4 p.length p by
            obtain ⟨b4, o4, e4, -⟩ := hby.at_ hp1
            subst e4
            refine byt_set2 hby (fun e => ?_)
            have h1 := hfr b4 o4 rfl
            have h2 := HS2.out.x8.lt
            omega)
          obtain ⟨P, hP⟩ : ∃ P, p.length = P := ⟨_, rfl⟩
          have HP := Lib.hid hP
          rw [hP] at hpc HBYP
          rw [hP]
          have HPC := Lib.hid hpc
          clear hb4 hblk hby hp1 hps hm4 hm8 hbb hbc hfr hle hP j0 j1 hpc HRD
          refine go_on ?_
          go_wp2_with (at_builtin; refine wp_app rfl (.tmp 28) (.tmp 29) rfl (w.heap.size + 4) P c4 (.slice Aa Q Ca) al p A4 _ (by rfl) (by rfl) HSX.out.ra.own HSX.out.ra.lt HBYP.out (by have h1 := HI.out.small; have h2 := HL.out; have h3 := HM.out; have h4 := HPB.out; have h5 := HP.out; have h6 := HWY.out; unfold wideP at h6; simp only at h6; omega) (by have := HSX.out.c6.lt; omega) ?_; intro V5 w5 hrl; refine Hid.out ?_)
          have HS5 := Lib.hid (HSX.out.pushA hrl)
          obtain ⟨A5, C5, hV⟩ := own_form hrl.own
          obtain ⟨Q5, hQ5⟩ : ∃ Q5, (al ++ p).length = Q5 := ⟨_, rfl⟩
          have HQ5 := Lib.hid hQ5
          rw [hQ5] at hV
          subst hV
          have k0 := HS5.out.x8.cell 0
          have k1 := HS5.out.x8.cell 1
          have k5 := HS5.out.c5.cell 0
          clear hrl hQ5 g80 g81 f80 f81
          cases b
          case false =>
            have HZZ := Lib.hid (show m4 = 0 ∧ m8 = 0 by
              by_cases h : m4 = 0 ∧ m8 = 0
              · exact h
              · exact absurd (HBB.out.1.mpr h) (by decide))
            have HI5 := Lib.hid (show LdI bs ((a : Int), (s : Int)) false (u ++ [((n4 : Int), (n8 : Int))]) (al ++ p) ((m4 : Int), (m8 : Int)) from HI.out.last (by have := HLE.out; simp only; omega) (by have h1 := HPB.out; simp only; omega) (by rw [HBLK.out, HZZ.out.1, HZZ.out.2]; rfl))
            refine go_on ?_
            go_upto_region 11 with fail
            obtain ⟨G, hGd⟩ : ∃ G : World → Prop, G = fun w' => Below w5.heap.size w5 w' := ⟨_, rfl⟩
            have hG0 : G { w5 with drawn := w5.drawn + 1 } := by rw [hGd]; exact (Below.refl _ _).drew
            have hG1 : Hid (∀ (s : Wof G) w2, Below s.val.heap.size s.val w2 → G w2) := Lib.hid (by subst hGd; exact fun s w2 hb2 => below_more s.is hb2)
            have hG2 : Hid (∀ s : Wof G, Below w5.heap.size w5 s.val) := Lib.hid (by subst hGd; exact fun s => s.is)
            have e0 : ∀ s : Wof G, s.val.cell? ⟨g8, 0, none⟩ = some (.int .i64 (m4 : Int)) := fun s => ((HS5.out.below (hG2.out s)).x8.cell 0)
            have e1 : ∀ s : Wof G, s.val.cell? ⟨g8, 1, none⟩ = some (.int .i64 (m8 : Int)) := fun s => ((HS5.out.below (hG2.out s)).x8.cell 1)
            have hne : Nonempty (Wof G) := ⟨⟨_, hG0⟩⟩
            clear hGd k0 k1 k5
            refine wp_region_kept (G := G) (by kernel_rfl) (by kernel_rfl) hG0 ?_
            clear hG0
            repeat (go_big_quiet_step ((fail)))
            refine wpQuiet_nil ?_
            rintro _ ⟨s, rfl⟩
            have HS6 := Lib.hid (HS5.out.below (hG2.out s))
            obtain ⟨w6, hw6⟩ := s
            change Hid (LdS w w6 _ _ _ _ _ _ _) at HS6
            clear hG1 hG2 hne e0 e1
            simp only
            have k0 := HS6.out.x8.cell 0
            have k1 := HS6.out.x8.cell 1
            go_wp2
            go_roundw
            case rel => exact ⟨_, _, _, _, m4, m8, false, rfl, rfl, HS6.out.next m4 m8, HI5, Lib.hid HQ5.out.symm⟩
            case measure => simp only [len8]; have h1 := HI5.out.small.1; have h2 := HQ5.out; have h3 := HL.out; have h4 := HQ.out; have h5 := HP.out; have h6 := HPB.out.1; rw [List.length_append] at h1 h2; omega
          case true =>
            have HBT := Lib.hid (And.intro (HBB.out.1.mp rfl) (HBB.out.2 rfl))
            clear HBB
            have HWI2 := Lib.hid (fun (W : World) => wide_any ((m4 : Int), (m8 : Int)) W)
            by_cases hw2 : wideP ((m4 : Int), (m8 : Int))
            · rw [decide_eq_true hw2] at HWI2
              have HW2 := Lib.hid hw2
              clear hw2
              obtain ⟨A2', C2', hV, hcc, hex, -⟩ := own_ex HS5.out.ru
              rw [HUL1.out] at hV hcc hex
              injection hV with e1 e2 e3
              subst e1 e3
              have HEX := Lib.hid (fun (W : World) (hbe : Below w5.heap.size w5 W) => hex.later hbe (Nat.le_refl _))
              have HU1 := Lib.hid (show 0 < U1 ∧ U1 * 17 ≤ 4194304 + 17 by
                have h1 := HI.out.small.2
                have h2 := HL.out
                have h3 := HM.out.1
                have h4 := HUL1.out
                rw [List.length_append] at h4
                simp only [List.length_cons, List.length_nil] at h4
                omega)
              obtain ⟨U2, hU2⟩ : ∃ U2, U1 + 1 = U2 := ⟨_, rfl⟩
              have HU2 := Lib.hid hU2
              have u1 : (0 : Int) ≤ (U1 : Int) := by omega
              have u2 : (U1 : Int) ≤ (C2 : Int) := by omega
              have HBL := Lib.hid (show (U1 + 1) * 16 ≤ 140737488355328 by have := HU1.out; omega)
              clear hex hcc hU2
              refine go_on ?_
              go_upto_region 11 with fail
              go_region_held3 (fun w' => w'.cell? ⟨g8, 0, none⟩ = some (.int .i64 (m4 : Int)) ∧ w'.cell? ⟨g8, 1, none⟩ = some (.int .i64 (m8 : Int)) ∧ w'.cell? ⟨w.heap.size + 1 + 1, 0, none⟩ = some (.slice A2 U1 C2))
                (first
                  | (with_reducible exact HS8.out.three)
                  | (with_reducible exact HS7.out.three)
                  | (with_reducible exact HSA.out.three)
                  | (with_reducible exact HS6.out.three)
                  | (with_reducible exact ⟨k0, k1, k5⟩)
                  | go_keep)
                (first
                  | (go_at_call 27; refine (HWI2.out _).mono ?_; rintro _ w6 ⟨rfl, hb6⟩; have HS6 := Lib.hid ((HS5.out.below ((Below.refl _ _).drew)).below hb6); have HSA := Lib.hid (HS6.out.below (below_new w6 (.cells #[.int .i64 (m4 : Int), .int .i64 (m8 : Int)] 49))); have HEA := Lib.hid (HEX.out _ (below_more (below_more ((Below.refl w5.heap.size w5).drew) hb6) (below_new w6 (.cells #[.int .i64 (m4 : Int), .int .i64 (m8 : Int)] 49)))); clear hb6)
                  | (refine step_growX Tryd.underlying34 ext_info (by rfl) (.tmp 42) (.tmp 44) (by rfl) (w6.alloc (.cells #[.int .i64 (m4 : Int), .int .i64 (m8 : Int)] 49)) (by with_reducible rfl) A2 U1 _ _ w6.heap.size (u ++ [((n4 : Int), (n8 : Int))]) ((m4 : Int), (m8 : Int)) (by rfl) (by rfl) HU1.out.1 HEA.out (Bx.new w6 _ _) HBL.out ?_; intro V7 w7 hown7 hgr7; obtain ⟨A7, C7, hV7, -, hex7, -⟩ := own_ex hown7; rw [HU2.out] at hV7 hex7; subst hV7; have HX7 := Lib.hid hex7; have HS7 := Lib.hid (HSA.out.below ((Below.refl _ _).grown hgr7 (Nat.le_refl _) (fun k hk => (nomatch hk)))); have HMT := Lib.hid (meets_any A7 U2 C7 _ _ _ w7 (by have h1 := HU1.out; have h2 := HU2.out; omega) hex7 (Nat.le_refl _)); clear hown7 hgr7 hex7)
                  | (go_at_call 28; refine HMT.out.mono ?_; rintro _ w8 ⟨r, rfl, hr, hb8⟩; have HR := hr; have HS8 := Lib.hid (HS7.out.below hb8); clear hr hb8))
              have HMX := Lib.hid (show r = false ↔ noMeet (u ++ [((n4 : Int), (n8 : Int))] ++ [((m4 : Int), (m8 : Int))]) from HR.out)
              have g0 := HS8.out.x8.cell 0
              have g1 := HS8.out.x8.cell 1
              have HNZ := Lib.hid (show ((m4 : Int), (m8 : Int)) ≠ (0, 0) from fun e => HBT.out.1 (by
                have e1 := congrArg Prod.fst e
                have e2 := congrArg Prod.snd e
                simp only at e1 e2
                omega))
              clear HR k0 k1 k5 u1 u2 HMT HSA HS6 HS7 HEA
              cases r
              case true =>
                have HNO := Lib.hid (show IsLoad8 bs ((a : Int), (s : Int)) 5 [] [] from HI.out.dies HWD.out (by decide) (.stop (by have := HLE.out; simp only; omega) HBLK.out HNZ.out (fun h => absurd (HMX.out.mpr h.2.2) (by decide))))
                go_wp2
                obtain ⟨v4, v5, v6, hbf⟩ := dies_cells HS8.out 5
                have HBF := Lib.hid hbf
                refine leaves_cons (f := 34) (args := #[.pointer (some ⟨w.heap.size + 1, 0, none⟩), .pointer (some ⟨w.heap.size + 1 + 1, 0, none⟩), .pointer (some ⟨w.heap.size + 1 + 1 + 1, 0, none⟩)]) (by simp) (by simp [go_sem]) ?_
                refine (catch_pan _ _ _ _ _ _ 5 [] _ HS8.out.c4 HS8.out.c5 HS8.out.c6 (by omega) (by omega) (by omega)).mono ?_
                rintro e u' w'' ⟨rfl, rfl, rfl⟩
                refine ⟨.tuple #[.slice none 0 0, .slice none 0 0, .int .i64 5], ?_, LdP.no HNO.out HBF.out⟩
                simp [results, Tryd.results21, go_sem, v4, v5, v6]
              case false =>
                have HI5 := Lib.hid (show LdI bs ((a : Int), (s : Int)) true (u ++ [((n4 : Int), (n8 : Int))]) (al ++ p) ((m4 : Int), (m8 : Int)) from HI.out.more (by have := HLE.out; simp only; omega) (by have h1 := HPB.out; simp only; omega) HBLK.out HNZ.out ⟨by have h1 := HBT.out.2; have h2 := HP.out; unfold capN; simp only; omega, HW2.out, HMX.out.mp rfl⟩)
                go_wp2
                go_roundw
                case rel => exact ⟨_, _, _, _, m4, m8, true, rfl, rfl, HS8.out.next m4 m8, HI5, Lib.hid HQ5.out.symm⟩
                case measure => simp only [len8]; have h1 := HI5.out.small.1; have h2 := HQ5.out; have h3 := HL.out; have h4 := HQ.out; have h5 := HP.out; have h6 := HPB.out.1; rw [List.length_append] at h1 h2; omega
            · rw [decide_eq_false hw2] at HWI2
              have HNO := Lib.hid (show IsLoad8 bs ((a : Int), (s : Int)) 5 [] [] from HI.out.dies HWD.out (by decide) (.stop (by have := HLE.out; simp only; omega) HBLK.out (fun e => HBT.out.1 (by
                have e1 := congrArg Prod.fst e
                have e2 := congrArg Prod.snd e
                simp only at e1 e2
                omega)) (fun h => hw2 h.2.1)))
              clear hw2
              refine go_on ?_
              go_upto_region 11 with fail
              obtain ⟨G, hGd⟩ : ∃ G : World → Prop, G = fun w' => Below w5.heap.size w5 w' := ⟨_, rfl⟩
              have hG0 : G { w5 with drawn := w5.drawn + 1 } := by rw [hGd]; exact (Below.refl _ _).drew
              have hG1 : Hid (∀ (s : Wof G) w2, Below s.val.heap.size s.val w2 → G w2) := Lib.hid (by subst hGd; exact fun s w2 hb2 => below_more s.is hb2)
              have hG2 : Hid (∀ s : Wof G, Below w5.heap.size w5 s.val) := Lib.hid (by subst hGd; exact fun s => s.is)
              have e0 : ∀ s : Wof G, s.val.cell? ⟨g8, 0, none⟩ = some (.int .i64 (m4 : Int)) := fun s => ((HS5.out.below (hG2.out s)).x8.cell 0)
              have e1 : ∀ s : Wof G, s.val.cell? ⟨g8, 1, none⟩ = some (.int .i64 (m8 : Int)) := fun s => ((HS5.out.below (hG2.out s)).x8.cell 1)
              have hne : Nonempty (Wof G) := ⟨⟨_, hG0⟩⟩
              clear hGd k0 k1 k5
              refine wp_region_kept (G := G) (by kernel_rfl) (by kernel_rfl) hG0 ?_
              clear hG0
              repeat (go_big_quiet_step (((go_at_call 27; refine (HWI2.out _).mono ?_; rintro _ w2 ⟨he, hb2⟩; exact ⟨he, ⟨w2, hG1.out _ _ hb2⟩, rfl⟩))))
              refine wpQuiet_nil ?_
              rintro _ ⟨s, rfl⟩
              have HS6 := Lib.hid (HS5.out.below (hG2.out s))
              obtain ⟨w6, hw6⟩ := s
              change Hid (LdS w w6 _ _ _ _ _ _ _) at HS6
              clear hG1 hG2 hne e0 e1
              simp only
              have k0 := HS6.out.x8.cell 0
              have k1 := HS6.out.x8.cell 1
              go_wp2
              obtain ⟨v4, v5, v6, hbf⟩ := dies_cells HS6.out 5
              have HBF := Lib.hid hbf
              refine leaves_cons (f := 34) (args := #[.pointer (some ⟨w.heap.size + 1, 0, none⟩), .pointer (some ⟨w.heap.size + 1 + 1, 0, none⟩), .pointer (some ⟨w.heap.size + 1 + 1 + 1, 0, none⟩)]) (by simp) (by simp [go_sem]) ?_
              refine (catch_pan _ _ _ _ _ _ 5 [] _ HS6.out.c4 HS6.out.c5 HS6.out.c6 (by omega) (by omega) (by omega)).mono ?_
              rintro e u' w'' ⟨rfl, rfl, rfl⟩
              refine ⟨.tuple #[.slice none 0 0, .slice none 0 0, .int .i64 5], ?_, LdP.no HNO.out HBF.out⟩
              simp [results, Tryd.results21, go_sem, v4, v5, v6]
  · rw [decide_eq_false hw] at HWI
    have HNO := Lib.hid (show IsLoad8 bs ((a : Int), (s : Int)) 2 [] [] from .inl ⟨hw, rfl, rfl, rfl⟩)
    clear hw hs ha
    go_enter_defers Tryd.func21, Tryd.ntmps21
    go_wp2_with (go_at_call 27; refine HWI.out.mono ?_; rintro _ w1 ⟨rfl, hb1⟩; refine Hid.out ?_)
    have HB1 := Lib.hid (below_more HW1.out hb1)
    obtain ⟨q3, q4, q5, q6⟩ := HX0.out
    have e4 := q4.later hb1 q4.lt
    have e5 := q5.later hb1 q5.lt
    have e6 := q6.later hb1 q6.lt
    have c4 := e4.cell 0
    have f4 := e4.frozen 0
    have b5 := bx_set (k := w.heap.size + 1) (i := 0) (u := .slice none 0 0) e5 (by omega)
    have b6 := bx_set (k := w.heap.size + 1 + 1) (i := 0) (u := .slice none 0 0) (bx_set (k := w.heap.size + 1) (i := 0) (u := .slice none 0 0) e6 (by omega)) (by omega)
    have c5 := b5.cell 0
    have f5 := b5.frozen 0
    have c6 := b6.cell 0
    have f6 := b6.frozen 0
    have v4 := (bx_set (k := w.heap.size + 1 + 1 + 1) (i := 0) (u := .int .i64 2) (bx_set (k := w.heap.size + 1 + 1) (i := 0) (u := .slice none 0 0) (e4.set_ 0 (.slice none 0 0)) (by omega)) (by omega)).cell 0
    have v5 := (bx_set (k := w.heap.size + 1 + 1 + 1) (i := 0) (u := .int .i64 2) (b5.set_ 0 (.slice none 0 0)) (by omega)).cell 0
    have v6 := (b6.set_ 0 (.int .i64 2)).cell 0
    have HBF := Lib.hid (((HB1.out.setCell (p := ⟨w.heap.size + 1, 0, none⟩) (by show w.heap.size ≤ w.heap.size + 1; omega) (.slice none 0 0)).setCell (p := ⟨w.heap.size + 1 + 1, 0, none⟩) (by show w.heap.size ≤ w.heap.size + 1 + 1; omega) (.slice none 0 0)).setCell (p := ⟨w.heap.size + 1 + 1 + 1, 0, none⟩) (by show w.heap.size ≤ w.heap.size + 1 + 1 + 1; omega) (.int .i64 2))
    clear hb1 q3 q4 q5 q6 e4 e5 e6 b5 b6
    refine go_on ?_
    go_wp2
    refine ⟨.tuple #[.slice none 0 0, .slice none 0 0, .int .i64 2], ?_, LdP.no HNO.out HBF.out⟩
    simp [results, Tryd.results21, go_sem, v4, v5, v6]
end Go.Proofs.YtcgapkepbnbabaaDoor.X5
