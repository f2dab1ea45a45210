/- header.read (printed by mkqd.py). -/
import Derived.Test.YtcgapkepbnbabaaDoorQa
import Derived.Test.YtcgapkepbnbabaaDoorQb
import Derived.Test.YtcgapkepbnbabaaDoorLc
namespace Go.Proofs.YtcgapkepbnbabaaDoor.X5
set_option linter.unusedVariables false
set_option linter.unusedSimpArgs false
open Go.RowKit Wd Ty9

theorem _root_.Go.Proofs.YtcgapkepbnbabaaDoor.Ty9.Byt.mid {w : World} {B b o m : Nat} {bs : List Nat} (h : Byt w B (some ⟨b, o, none⟩) m bs) {p n : Nat} (hp : p + n ≤ m) : Byt w B (some ⟨b, o + p, none⟩) n ((bs.drop p).take n) :=
  ⟨by rw [List.length_take, List.length_drop, h.len]; omega, fun x hx => h.lt x (List.mem_of_mem_drop (List.mem_of_mem_take hx)), fun h0 => by
    obtain ⟨b', o', e, h1, h2⟩ := h.at_ (by omega)
    cases e
    refine ⟨b, o + p, rfl, h1, fun j hj => ?_⟩
    have hl := h.len
    rw [List.length_take, List.length_drop] at hj
    have h4 := h2 (p + j) (by omega)
    rw [← Nat.add_assoc] at h4
    rw [h4]
    simp⟩
theorem byt_suf8 {w : World} {B b o m k c : Nat} {bs : List Nat} (h : Byt w B (some ⟨b, o, none⟩) m bs) (hk : k ≤ m) (hc : m ≤ c) : Byt w B (if c = k then some ⟨b, o, none⟩ else some ⟨b, o + k, none⟩) (m - k) (bs.drop k) :=
  ⟨by rw [List.length_drop, h.len], fun x hx => h.lt x (List.mem_of_mem_drop hx), fun h0 => by
    obtain ⟨b', o', e, h1, h2⟩ := h.at_ (by omega)
    cases e
    refine ⟨b, o + k, by rw [if_neg (by omega)], h1, fun j hj => ?_⟩
    rw [List.length_drop] at hj
    have h3 := h2 (k + j) (by omega)
    rw [← Nat.add_assoc] at h3
    rw [h3]
    simp⟩
theorem rowb_cap {w : World} {base : Nat} {V : Value} {bs : List Nat} (h : RowB w base V bs) : ∃ A c, V = .slice A bs.length c ∧ bs.length ≤ c ∧ Byt w w.heap.size A bs.length bs := by
  obtain ⟨A, c, rfl, hb⟩ := h.byt
  rcases h.own.2 with ⟨hv, h1⟩ | ⟨g, cap, cur, hv, _, _, hc, _⟩
  · injection hv with e1 e2 e3
    exact ⟨A, c, rfl, by omega, hb⟩
  · injection hv with e1 e2 e3
    exact ⟨A, c, rfl, by omega, hb⟩
theorem byt_set2 {w : World} {g g2 q n : Nat} {bs : List Nat} {u v : Value} (h : Byt w w.heap.size (some ⟨g, q, none⟩) n bs) (hne : g ≠ g2) : Byt ((w.setCell ⟨g2, 0, none⟩ u).setCell ⟨g2, 1, none⟩ v) ((w.setCell ⟨g2, 0, none⟩ u).setCell ⟨g2, 1, none⟩ v).heap.size (some ⟨g, q, none⟩) n bs :=
  ⟨h.len, h.lt, fun h0 => by
    obtain ⟨b, o, e, h1, h2⟩ := h.at_ h0
    cases e
    refine ⟨g, q, rfl, by simpa [World.setCell] using h1, fun j hj => ?_⟩
    rw [World.cell?_setCell_other, World.cell?_setCell_other]
    · exact h2 j hj
    · intro e; injection e with e1; exact hne e1.symm
    · intro e; injection e with e1; exact hne e1.symm⟩
def partB (bs : List Nat) (a s : Nat) : List Nat := (bs.drop a).take s
theorem blk_un {bs : List Nat} {a s : Nat} (hl : a + s ≤ bs.length) (h4 : 16 < s) {z : Int} {out : List Nat} (h : IsUn (partB bs a s) z out) :
    (z = 5 ∧ blockOf bs ((a : Int), (s : Int)) = none) ∨ (z = 0 ∧ out.length + 4 = s ∧ (∀ (hn : 1 ≤ getN out 0 ∧ getN out 0 ≤ s - 16) (hz : ∀ y ∈ out.drop (12 + getN out 0), y = 0), blockOf bs ((a : Int), (s : Int)) = some ((out.drop 12).take (getN out 0), ((getN out 4 : Int), (getN out 8 : Int)))) ∧
      (¬ (1 ≤ getN out 0 ∧ getN out 0 ≤ s - 16) → blockOf bs ((a : Int), (s : Int)) = none) ∧ (¬ (∀ y ∈ out.drop (12 + getN out 0), y = 0) → blockOf bs ((a : Int), (s : Int)) = none)) := by
  have hlen : (partB bs a s).length = s := by unfold partB; rw [List.length_take, List.length_drop]; omega
  have hcap : capN ((a : Int), (s : Int)) = s - 16 := by unfold capN; simp only; omega
  unfold IsUn at h
  rw [hlen] at h
  rcases h with ⟨h1, _, _⟩ | ⟨_, h1, h2, _⟩ | ⟨_, h1, h2, h3⟩
  · omega
  · refine .inl ⟨h2, ?_⟩
    unfold blockOf
    simp only [Int.toNat_natCast]
    change (if _ then _ else _) = none
    rw [if_neg]
    intro h
    refine h1 ?_
    have := h.1
    have e : (bs.drop a).take s = partB bs a s := rfl
    rw [e, hlen] at this
    exact this
  · have e : (bs.drop a).take s = partB bs a s := rfl
    have hout : (partB bs a s).take (s - 4) = out := h3.symm
    have hol : out.length + 4 = s := by rw [h3, List.length_take, hlen]; omega
    refine .inr ⟨h2, hol, fun hn hz => ?_, fun hn => ?_, fun hz => ?_⟩
    · unfold blockOf
      simp only [Int.toNat_natCast, e, hlen, hout, hcap]
      rw [if_pos ⟨by rw [← hout]; exact h1, hn.1, hn.2, hz⟩]
    · unfold blockOf
      simp only [Int.toNat_natCast, e, hlen, hout, hcap]
      rw [if_neg]
      exact fun h => hn ⟨h.2.1, h.2.2.1⟩
    · unfold blockOf
      simp only [Int.toNat_natCast, e, hlen, hout, hcap]
      rw [if_neg]
      exact fun h => hz h.2.2.2
/-- What read tells, or how it panics. -/
def RdP (bs : List Nat) (a s : Nat) (w : World) (e : Ending) (w' : World) : Prop :=
  Below w.heap.size w w' ∧ ((∃ A' c' p n4 n8 b, e = .returned (.tuple #[.slice A' (p : List Nat).length c', .agg #[.int .i64 ((n4 : Nat) : Int), .int .i64 ((n8 : Nat) : Int)], .bool b]) ∧ a + s ≤ bs.length ∧ blockOf bs ((a : Int), (s : Int)) = some (p, ((n4 : Int), (n8 : Int))) ∧ Byt w' w'.heap.size A' p.length p ∧ p.length ≤ c' ∧ 1 ≤ p.length ∧ p.length + 16 ≤ s ∧ n4 < 4294967296 ∧ n8 < 4294967296 ∧ (b = true ↔ ¬ (n4 = 0 ∧ n8 = 0)) ∧ (b = true → p.length = s - 16) ∧ (∀ g o, A' = some ⟨g, o, none⟩ → w.heap.size ≤ g)) ∨
    (∃ z, e = .panicked [{ v := .iface 25 (.int .i64 z), recovered := false }] ∧ ((z = 4 ∧ bs.length < a + s) ∨ (z = 5 ∧ a + s ≤ bs.length ∧ (blockOf bs ((a : Int), (s : Int)) = none ∨ ∃ p n4 n8, blockOf bs ((a : Int), (s : Int)) = some (p, (((n4 : Nat) : Int), ((n8 : Nat) : Int))) ∧ ¬ (n4 = 0 ∧ n8 = 0) ∧ (p : List Nat).length ≠ s - 16)))))
theorem RdP.ok {bs : List Nat} {a s : Nat} {w w' : World} {A' : Option Addr} {c' q : Nat} {p : List Nat} {n4 n8 : Nat} {b : Bool} (hb : Below w.heap.size w w') (h1 : a + s ≤ bs.length) (h2 : blockOf bs ((a : Int), (s : Int)) = some (p, ((n4 : Int), (n8 : Int)))) (hq : p.length = q) (h3 : Byt w' w'.heap.size A' q p) (h4 : q ≤ c') (h5 : 1 ≤ q) (h5b : q + 16 ≤ s) (h6 : n4 < 4294967296) (h7 : n8 < 4294967296) (h8 : b = true ↔ ¬ (n4 = 0 ∧ n8 = 0)) (h9 : b = true → q = s - 16) (h10 : ∀ g o, A' = some ⟨g, o, none⟩ → w.heap.size ≤ g) :
    RdP bs a s w (.returned (.tuple #[.slice A' q c', .agg #[.int .i64 (n4 : Int), .int .i64 (n8 : Int)], .bool b])) w' := by
  subst hq
  exact ⟨hb, .inl ⟨A', c', p, n4, n8, b, rfl, h1, h2, h3, h4, h5, h5b, h6, h7, h8, h9, h10⟩⟩
theorem RdP.short {bs : List Nat} {a s : Nat} {w w' : World} (hb : Below w.heap.size w w') (h : bs.length < a + s) : RdP bs a s w (.panicked [{ v := .iface 25 (.int .i64 4), recovered := false }]) w' :=
  ⟨hb, .inr ⟨4, rfl, .inl ⟨rfl, h⟩⟩⟩
theorem RdP.bad {bs : List Nat} {a s : Nat} {w w' : World} (hb : Below w.heap.size w w') (h : a + s ≤ bs.length) (h2 : blockOf bs ((a : Int), (s : Int)) = none) : RdP bs a s w (.panicked [{ v := .iface 25 (.int .i64 5), recovered := false }]) w' :=
  ⟨hb, .inr ⟨5, rfl, .inr ⟨rfl, h, .inl h2⟩⟩⟩
theorem RdP.odd {bs : List Nat} {a s : Nat} {w w' : World} (hb : Below w.heap.size w w') (h : a + s ≤ bs.length) (h2 : blockOf bs ((a : Int), (s : Int)) = none ∨ ∃ p n4 n8, blockOf bs ((a : Int), (s : Int)) = some (p, (((n4 : Nat) : Int), ((n8 : Nat) : Int))) ∧ ¬ (n4 = 0 ∧ n8 = 0) ∧ (p : List Nat).length ≠ s - 16) : RdP bs a s w (.panicked [{ v := .iface 25 (.int .i64 5), recovered := false }]) w' :=
  ⟨hb, .inr ⟨5, rfl, .inr ⟨rfl, h, h2⟩⟩⟩

set_option maxHeartbeats 4000000 in
set_option maxRecDepth 100000 in
theorem read_any (A : Option Addr) (m c a s : Nat) (bs : List Nat) (w : World) (hm : m ≤ 140737488000000) (hc : m ≤ c) (hb : Byt w w.heap.size A m bs) (hs : 16 < s) (hs2 : s ≤ 4194304) (ha : a + s ≤ 4194304) (hG : Gs w) :
    Calls Tryd.prog 35 #[.slice A m c, .agg #[.int .i64 (a : Int), .int .i64 (s : Int)]] w fun e w' => RdP bs a s w e w' := by
  have hl := hb.len
  have HBY := Lib.hid hb
  have HG := Lib.hid hG
  have s1 : IntKind.i64.wrap ((a : Int) + s) = (a : Int) + s := IntWalk.i64_in _ (by omega)
  have s2 : wrap64 ((a : Int) + s) = (a : Int) + s := by unfold wrap64; omega
  have HBN := Lib.hid (below_new w (.cells #[.int .i64 a, .int .i64 s] 49))
  have HBN2 := Lib.hid (below_more HBN.out (below_new _ (.cells #[.int .i64 0, .int .i64 0] 49)))
  clear hb hG
  go_enter Tryd.func35, Tryd.ntmps35
  by_cases hsh : m < a + s
  · have HSH := Lib.hid (show bs.length < a + s by omega)
    have z1 : (m : Int) < (a : Int) + (s : Int) := by omega
    clear hsh hl
    go_wp2
    exact ⟨rfl, RdP.short HBN2.out HSH.out⟩
  · have HLE := Lib.hid (show a + s ≤ bs.length by omega)
    obtain ⟨b, o, rfl, -⟩ := HBY.out.at_ (by omega)
    have z1 : ¬ (m : Int) < (a : Int) + (s : Int) := by omega
    have z2 : (0 : Int) ≤ (a : Int) := by omega
    have z3 : (a : Int) ≤ (a : Int) + (s : Int) := by omega
    have z4 : (a : Int) + (s : Int) ≤ (c : Int) := by omega
    have z5 : ((a : Int) + (s : Int)).toNat = a + s := by omega
    have z6 : ¬ c = a := by omega
    have z7 : a + s - a = s := by omega
    have HUN := Lib.hid (fun (W : World) (hbe : Below w.heap.size w W) => unseal_any (some ⟨b, o + a, none⟩) s (c - a) (partB bs a s) W (by omega) (by omega) (((HBY.out.mid (p := a) (n := s) (by omega)).later hbe).up hbe.size) (HG.out.later hbe (Nat.le_refl _)))
    have HNUM := Lib.hid (And.intro hs (And.intro hs2 ha))
    clear hsh hl
    go_wp2_with (go_at_call 55; refine (HUN.out _ HBN2.out).mono ?_; (first | rintro _ w1 ⟨V, z, out, rfl, hun, hrow, hbe⟩ | rintro _ w1 ⟨V, z, rfl, out, hun, hrow, hbe⟩); refine Hid.out ?_)
    have HBL := Lib.hid (blk_un HLE.out hs hun)
    have HB1 := Lib.hid (below_more HBN2.out hbe)
    have hx0 : w1.cell? ⟨w.heap.size, 1, none⟩ = some (.int .i64 (s : Int)) := by
      rw [hbe.cell (p := ⟨w.heap.size, 1, none⟩) (by simp only [size_alloc]; omega)]
      exact (((Bx.new w 49 #[.int .i64 (a : Int), .int .i64 (s : Int)]).later (below_new _ _) (by simp only [size_alloc]; omega)).cell 1)
    have hx5 : Bx w1 (w.heap.size + 1) 49 #[.int .i64 0, .int .i64 0] := (Bx.new2 w _ _ _).later hbe (by simp only [size_alloc]; omega)
    have HX5 := Lib.hid hx5
    obtain ⟨Au, Cu, hV, hcu, hby⟩ := rowb_cap hrow
    have HOW := Lib.hid (hrow.up HBN2.out.size)
    clear hun hbe HUN s1 s2 z1 z2 z3 z4 z5 z6 z7 hx5 hs hs2 ha
    rcases HBL.out with ⟨rfl, hno⟩ | ⟨rfl, hol, hyes, hno1, hno2⟩
    · have HNO := Lib.hid hno
      subst hV
      clear hno hby hrow hcu
      refine go_on ?_
      go_wp2
      exact ⟨rfl, RdP.bad HB1.out HLE.out HNO.out⟩
    · obtain ⟨L, hL⟩ : ∃ L, out.length = L := ⟨_, rfl⟩
      have HOL := Lib.hid hL
      rw [hL] at hV hcu hby hol
      obtain ⟨g, cap, hVg, hg1, hg2⟩ := hrow.own.form (by have := HNUM.out.1; omega)
      rw [hL] at hVg
      rw [hVg] at hV
      injection hV with e1 e2 e3
      subst e1 e3 hVg
      have HBY1 := Lib.hid hby
      have HCU := Lib.hid hcu
      have HYES := Lib.hid hyes
      have HNO1 := Lib.hid hno1
      have HNO2 := Lib.hid hno2
      have HLS := Lib.hid hol
      have hn0 := getN_lt hby.lt 0
      have hn4 := getN_lt hby.lt 4
      have hn8 := getN_lt hby.lt 8
      have HT0 := Lib.hid (fun (W : World) (hbe : Below w1.heap.size w1 W) => show Calls Tryd.prog 56 #[.slice (some ⟨g, 0, none⟩) L cap, .int .i64 0, .int .i64 4, .bool true] W (fun e w' => e = .returned (.tuple #[.int .u64 (getN out 0 : Nat), .int .i64 0]) ∧ Below W.heap.size W w') from get84_ok 0 L cap _ out W (by have := HNUM.out.2.1; omega) hcu (by have := HNUM.out.1; omega) ((HBY1.out.later hbe).up hbe.size))
      have HT4 := Lib.hid (fun (W : World) (hbe : Below w1.heap.size w1 W) => show Calls Tryd.prog 56 #[.slice (some ⟨g, 0, none⟩) L cap, .int .i64 4, .int .i64 4, .bool true] W (fun e w' => e = .returned (.tuple #[.int .u64 (getN out 4 : Nat), .int .i64 0]) ∧ Below W.heap.size W w') from get84_ok 4 L cap _ out W (by have := HNUM.out.2.1; omega) hcu (by have := HNUM.out.1; omega) ((HBY1.out.later hbe).up hbe.size))
      have HT8 := Lib.hid (fun (W : World) (hbe : Below w1.heap.size w1 W) => show Calls Tryd.prog 56 #[.slice (some ⟨g, 0, none⟩) L cap, .int .i64 8, .int .i64 4, .bool true] W (fun e w' => e = .returned (.tuple #[.int .u64 (getN out 8 : Nat), .int .i64 0]) ∧ Below W.heap.size W w') from get84_ok 8 L cap _ out W (by have := HNUM.out.2.1; omega) hcu (by have := HNUM.out.1; omega) ((HBY1.out.later hbe).up hbe.size))
      have HGE := Lib.hid (show ∃ n0, getN out 0 = n0 from ⟨_, rfl⟩)
      clear hyes hno1 hno2 HBL hby hrow hL
      generalize getN out 0 = n0 at *
      generalize getN out 4 = n4 at *
      generalize getN out 8 = n8 at *
      have HN := Lib.hid (And.intro hn0 (And.intro hn4 hn8))
      have HNE := Lib.hid (show g ≠ w.heap.size + 1 by simp at hg1; omega)
      clear hn0 hn4 hn8 hcu hol hg1
      refine go_on ?_
      go_wp2_with (go_at_call 56; refine (HT0.out w1 (Below.refl _ _)).mono ?_; rintro _ w2 ⟨rfl, hbe⟩; refine Hid.out ?_)
      have HB2 := Lib.hid hbe
      clear hbe HT0
      refine go_on ?_
      go_wp2_with (go_at_call 56; refine (HT4.out w2 HB2.out).mono ?_; rintro _ w3 ⟨rfl, hbe⟩; refine Hid.out ?_)
      have HB3 := Lib.hid (below_more HB2.out hbe)
      clear hbe HT4
      refine go_on ?_
      go_wp2_with (go_at_call 56; refine (HT8.out w3 HB3.out).mono ?_; rintro _ w4 ⟨rfl, hbe⟩; refine Hid.out ?_)
      have HB4 := Lib.hid (below_more HB3.out hbe)
      have HX5' := Lib.hid (HX5.out.later HB4.out HX5.out.lt)
      have HW4 := Lib.hid (below_more HB1.out HB4.out)
      have hx1 := (HB4.out.cell (p := ⟨w.heap.size, 1, none⟩) (show w.heap.size < w1.heap.size by have := HX5.out.lt; omega)).trans hx0
      obtain ⟨cp, hcp⟩ : ∃ cp, cp + 16 = s := ⟨s - 16, by have := HNUM.out; omega⟩
      have r1 : IntKind.i64.wrap ((s : Int) - 16) = (cp : Int) := by rw [show (s : Int) - 16 = (cp : Int) by omega]; exact IntWalk.i64_in _ (by have := HNUM.out; omega)
      have r2 : wrap64 ((s : Int) - 16) = (cp : Int) := by have := HNUM.out; unfold wrap64; omega
      have r4 : IntKind.u64.wrap (cp : Int) = (cp : Int) := by have := HNUM.out; simp [IntKind.wrap, IntKind.bits, IntKind.signed]; omega
      have HCP := Lib.hid hcp
      have R1 := Lib.hid r1
      have R2 := Lib.hid r2
      have R4 := Lib.hid r4
      clear hbe HT8 hx0 hcp r1 r2 r4
      have HM := Lib.hid (show (((n4 : Int) != 0) = true ∧ ¬ (n4 = 0 ∧ n8 = 0)) ∨ ((((n4 : Int) != 0) = false ∧ ((n8 : Int) != 0) = true) ∧ ¬ (n4 = 0 ∧ n8 = 0)) ∨ (((n4 : Int) != 0) = false ∧ ((n8 : Int) != 0) = false ∧ (n4 = 0 ∧ n8 = 0)) by
        by_cases h4 : n4 = 0
        · by_cases h8 : n8 = 0
          · exact .inr (.inr ⟨by simp [h4], by simp [h8], h4, h8⟩)
          · exact .inr (.inl ⟨⟨by simp [h4], by simpa using h8⟩, fun h => h8 h.2⟩)
        · exact .inl ⟨by simpa using h4, fun h => h4 h.1⟩)
      rcases HM.out with ⟨m4, hmo⟩ | ⟨⟨m4, m8⟩, hmo⟩ | ⟨m4, m8, hmo⟩
      · have HMO := Lib.hid hmo
        clear hmo
        rcases Nat.lt_trichotomy n0 cp with hlt | heq | hgt
        · by_cases h0 : n0 = 0
          · subst h0
            have HNO := Lib.hid (HNO1.out (by omega))
            clear hlt
            have r1 := R1.out
            have r2 := R2.out
            have r4 := R4.out
            refine go_on ?_
            go_wp2
            exact ⟨rfl, RdP.bad HW4.out HLE.out HNO.out⟩
          · have y1 : ((n0 : Int) == 0) = false := by simp; omega
            have y2 : ¬ (cp : Int) < (n0 : Int) := by omega
            have y3 : (n0 : Int) < (cp : Int) := by omega
            have HNO := Lib.hid (show blockOf bs ((a : Int), (s : Int)) = none ∨ ∃ p n4 n8, blockOf bs ((a : Int), (s : Int)) = some (p, (((n4 : Nat) : Int), ((n8 : Nat) : Int))) ∧ ¬ (n4 = 0 ∧ n8 = 0) ∧ (p : List Nat).length ≠ s - 16 by
              by_cases hz : ∀ y ∈ out.drop (12 + n0), y = 0
              · refine .inr ⟨_, n4, n8, HYES.out (by have := HCP.out; omega) hz, HMO.out, ?_⟩
                rw [List.length_take, List.length_drop]
                have := HCP.out
                omega
              · exact .inl (HNO2.out hz))
            clear hlt h0
            have r1 := R1.out
            have r2 := R2.out
            have r4 := R4.out
            refine go_on ?_
            go_wp2
            exact ⟨rfl, RdP.odd HW4.out HLE.out HNO.out⟩
        · by_cases h0 : n0 = 0
          · exfalso
            have h1 := HNUM.out
            have h2 := HCP.out
            omega
          · have y1 : ((n0 : Int) == 0) = false := by simp; omega
            have y2 : ¬ (cp : Int) < (n0 : Int) := by omega
            have y3 : ¬ (n0 : Int) < (cp : Int) := by omega
            have HNR := Lib.hid (show 1 ≤ n0 ∧ n0 ≤ cp by omega)
            have HMR := Lib.hid (show true = true → n0 = s - 16 from fun _ => by have := HCP.out; omega)
            clear heq h0
            have y5 : (12 : Int) + (n0 : Int) ≤ (L : Int) := by have h1 := HNR.out; have h2 := HCP.out; have h3 := HLS.out; omega
            have y6 : (0 : Int) ≤ (12 : Int) + (n0 : Int) := by omega
            have y7 : ((12 : Int) + (n0 : Int)).toNat = 12 + n0 := by omega
            have y8 : (12 : Int) + (n0 : Int) ≤ (cap : Int) := by have := HCU.out; omega
            have y9 : (L : Int) ≤ (cap : Int) := by have := HCU.out; omega
            obtain ⟨AD, hAD⟩ : ∃ AD, (if cap = 12 + n0 then some (⟨g, 0, none⟩ : Addr) else some ⟨g, 12 + n0, none⟩) = AD := ⟨_, rfl⟩
            obtain ⟨M, hM⟩ : ∃ M, L - (12 + n0) = M := ⟨_, rfl⟩
            have HBD := Lib.hid (show Byt w1 w1.heap.size AD M (out.drop (12 + n0)) by
              have h1 := byt_suf8 HBY1.out (k := 12 + n0) (c := cap) (by omega) HCU.out
              rw [Nat.zero_add, hAD, hM] at h1
              exact h1)
            have HML := Lib.hid (show M ≤ 4194304 by have h1 := HLS.out; have h2 := HNUM.out; omega)
            have y4 : IntKind.u64.wrap ((12 : Int) + (n0 : Int)) = (12 : Int) + (n0 : Int) := by have := HN.out; simp [IntKind.wrap, IntKind.bits, IntKind.signed]; omega
            have r1 := R1.out
            have r2 := R2.out
            have r4 := R4.out
            refine go_on ?_
            go_wp2
            go_loopw [90] (fun i wr => ∃ (k : Nat), i = .int .i64 k ∧ k ≤ M ∧ Below w4.heap.size w4 wr ∧ Hid (∀ j y, j < k → (out.drop (12 + n0))[j]? = some y → y = 0)) (fun i _ => M - (intOf i).toNat)
            case atStart => exact ⟨0, rfl, Nat.zero_le _, Below.refl _ _, Lib.hid (fun j y h => absurd h (Nat.not_lt_zero _))⟩
            case round =>
              obtain ⟨k, rfl, hk, hbe, HZ⟩ := hrel
              have HBE := Lib.hid hbe
              have HBW := Lib.hid (below_more HB4.out hbe)
              have HWW := Lib.hid (below_more HW4.out hbe)
              have hml := HML.out
              clear hbe
              by_cases hlt : k < M
              · have hltz : (k : Int) < (M : Int) := by omega
                obtain ⟨bd, od, rfl, hb1, hcl⟩ := HBD.out.at_ (by omega)
                have hkl : k < (out.drop (12 + n0)).length := by have := HBD.out.len; omega
                have cv := (HBW.out.cell (p := ⟨bd, od + k, none⟩) hb1).trans (hcl k hkl)
                have HY := Lib.hid (List.getElem?_eq_getElem hkl)
                generalize (out.drop (12 + n0))[k]'hkl = y at cv HY
                clear hcl hkl hb1
                by_cases hy : y = 0
                · subst hy
                  have HZ2 := Lib.hid (show ∀ j y, j < k + 1 → (out.drop (12 + n0))[j]? = some y → y = 0 from fun j y hj hjy => by
                    rcases Nat.lt_or_ge j k with h | h
                    · exact HZ.out j y h hjy
                    · obtain rfl : j = k := by omega
                      rw [HY.out] at hjy
                      exact (Option.some.inj hjy).symm)
                  go_wp2
                  go_roundw
                  case rel => exact ⟨k + 1, by go_num, by omega, HBE.out, HZ2⟩
                  case measure => simp [intOf]; omega
                · have q1 : ((y : Int) != 0) = true := by simpa using hy
                  have q2 : ((y : Int) == 0) = false := by simpa using hy
                  have HNO := Lib.hid (HNO2.out (fun h => hy (h y (List.mem_of_getElem? HY.out))))
                  clear hy
                  go_wp2
                  exact ⟨rfl, RdP.bad HWW.out HLE.out HNO.out⟩
              · obtain rfl : k = M := by omega
                have hbk := (HYES.out (by have h1 := HNR.out; have h2 := HCP.out; omega) (fun y hy => by
                  obtain ⟨j, hj, rfl⟩ := List.getElem_of_mem hy
                  exact HZ.out j _ (by have := HBD.out.len; omega) (List.getElem?_eq_getElem hj)))
                have HBK := Lib.hid hbk
                have HPT := Lib.hid (((HBY1.out.mid (p := 12) (n := n0) (by omega)).later HBW.out).up HBW.out.size)
                have HPL := Lib.hid (show ((out.drop 12).take n0).length = n0 by rw [List.length_take, List.length_drop, HOL.out]; omega)
                have HX5W := Lib.hid (HX5'.out.later HBE.out HX5'.out.lt)
                have x50 := HX5W.out.cell 0
                have x51 := HX5W.out.cell 1
                have x5f := HX5W.out.frozen 0
                have x5g := HX5W.out.frozen 1
                have HWS := Lib.hid (show Below w.heap.size w ((wr.setCell ⟨w.heap.size + 1, 0, none⟩ (.int .i64 (n4 : Int))).setCell ⟨w.heap.size + 1, 1, none⟩ (.int .i64 (n8 : Int))) from (HWW.out.setCell (p := ⟨w.heap.size + 1, 0, none⟩) (by show w.heap.size ≤ w.heap.size + 1; omega) _).setCell (p := ⟨w.heap.size + 1, 1, none⟩) (by show w.heap.size ≤ w.heap.size + 1; omega) _)
                have HPS := Lib.hid (show Byt ((wr.setCell ⟨w.heap.size + 1, 0, none⟩ (.int .i64 (n4 : Int))).setCell ⟨w.heap.size + 1, 1, none⟩ (.int .i64 (n8 : Int))) ((wr.setCell ⟨w.heap.size + 1, 0, none⟩ (.int .i64 (n4 : Int))).setCell ⟨w.heap.size + 1, 1, none⟩ (.int .i64 (n8 : Int))).heap.size (some ⟨g, 0 + 12, none⟩) n0 ((out.drop 12).take n0) from byt_set2 HPT.out HNE.out)
                have k1 : IntKind.i64.wrap (n4 : Int) = (n4 : Int) := by have := HN.out; exact IntWalk.i64_in _ (by omega)
                have k2 : IntKind.i64.wrap (n8 : Int) = (n8 : Int) := by have := HN.out; exact IntWalk.i64_in _ (by omega)
                have k3 : (12 : Int) ≤ (12 : Int) + (n0 : Int) := by omega
                have k4 : ¬ cap = 12 := by have h1 := HCU.out; have h2 := HNR.out; omega
                have k5 : 12 + n0 - 12 = n0 := by omega
                have k6 : n0 ≤ cap - 12 := by have h1 := HCU.out; omega
                clear hlt hk hbk
                go_wp2
                have f1 : ((wr.setCell ⟨w.heap.size + 1, 0, none⟩ (.int .i64 (n4 : Int))).setCell ⟨w.heap.size + 1, 1, none⟩ (.int .i64 (n8 : Int))).cell? ⟨w.heap.size + 1, 1, none⟩ = some (.int .i64 (n8 : Int)) := ((HX5W.out.set_ 0 (.int .i64 (n4 : Int))).set_ 1 (.int .i64 (n8 : Int))).cell 1
                have f0 : ((wr.setCell ⟨w.heap.size + 1, 0, none⟩ (.int .i64 (n4 : Int))).setCell ⟨w.heap.size + 1, 1, none⟩ (.int .i64 (n8 : Int))).cell? ⟨w.heap.size + 1, 0, none⟩ = some (.int .i64 (n4 : Int)) := ((HX5W.out.set_ 0 (.int .i64 (n4 : Int))).set_ 1 (.int .i64 (n8 : Int))).cell 0
                generalize (wr.setCell ⟨w.heap.size + 1, 0, none⟩ (.int .i64 (n4 : Int))).setCell ⟨w.heap.size + 1, 1, none⟩ (.int .i64 (n8 : Int)) = wf at *
                refine bodyPost_ret (w := wf) (v := .tuple #[.slice (some ⟨g, 12, none⟩) n0 (cap - 12), .agg #[.int .i64 (n4 : Int), .int .i64 (n8 : Int)], .bool true]) ?_ rfl ?_
                · simp [results, Tryd.results35, go_sem, f0, f1]
                · exact RdP.ok HWS.out HLE.out HBK.out HPL.out HPS.out k6 HNR.out.1 (by have h1 := HNR.out; have h2 := HCP.out; omega) HN.out.2.1 HN.out.2.2 ⟨fun _ => HMO.out, fun _ => rfl⟩ (fun h => by first | exact HMR.out h | exact HMR.out trivial | exact absurd h (by decide)) (fun k o e => by cases e; exact (HOW.out.own.lt _ rfl).1)
        · have y1 : ((n0 : Int) == 0) = false := by simp; omega
          have y2 : (cp : Int) < (n0 : Int) := by omega
          have HNO := Lib.hid (HNO1.out (by have := HCP.out; omega))
          clear hgt
          have r1 := R1.out
          have r2 := R2.out
          have r4 := R4.out
          refine go_on ?_
          go_wp2
          exact ⟨rfl, RdP.bad HW4.out HLE.out HNO.out⟩
      · have HMO := Lib.hid hmo
        clear hmo
        rcases Nat.lt_trichotomy n0 cp with hlt | heq | hgt
        · by_cases h0 : n0 = 0
          · subst h0
            have HNO := Lib.hid (HNO1.out (by omega))
            clear hlt
            have r1 := R1.out
            have r2 := R2.out
            have r4 := R4.out
            refine go_on ?_
            go_wp2
            exact ⟨rfl, RdP.bad HW4.out HLE.out HNO.out⟩
          · have y1 : ((n0 : Int) == 0) = false := by simp; omega
            have y2 : ¬ (cp : Int) < (n0 : Int) := by omega
            have y3 : (n0 : Int) < (cp : Int) := by omega
            have HNO := Lib.hid (show blockOf bs ((a : Int), (s : Int)) = none ∨ ∃ p n4 n8, blockOf bs ((a : Int), (s : Int)) = some (p, (((n4 : Nat) : Int), ((n8 : Nat) : Int))) ∧ ¬ (n4 = 0 ∧ n8 = 0) ∧ (p : List Nat).length ≠ s - 16 by
              by_cases hz : ∀ y ∈ out.drop (12 + n0), y = 0
              · refine .inr ⟨_, n4, n8, HYES.out (by have := HCP.out; omega) hz, HMO.out, ?_⟩
                rw [List.length_take, List.length_drop]
                have := HCP.out
                omega
              · exact .inl (HNO2.out hz))
            clear hlt h0
            have r1 := R1.out
            have r2 := R2.out
            have r4 := R4.out
            refine go_on ?_
            go_wp2
            exact ⟨rfl, RdP.odd HW4.out HLE.out HNO.out⟩
        · by_cases h0 : n0 = 0
          · exfalso
            have h1 := HNUM.out
            have h2 := HCP.out
            omega
          · have y1 : ((n0 : Int) == 0) = false := by simp; omega
            have y2 : ¬ (cp : Int) < (n0 : Int) := by omega
            have y3 : ¬ (n0 : Int) < (cp : Int) := by omega
            have HNR := Lib.hid (show 1 ≤ n0 ∧ n0 ≤ cp by omega)
            have HMR := Lib.hid (show true = true → n0 = s - 16 from fun _ => by have := HCP.out; omega)
            clear heq h0
            have y5 : (12 : Int) + (n0 : Int) ≤ (L : Int) := by have h1 := HNR.out; have h2 := HCP.out; have h3 := HLS.out; omega
            have y6 : (0 : Int) ≤ (12 : Int) + (n0 : Int) := by omega
            have y7 : ((12 : Int) + (n0 : Int)).toNat = 12 + n0 := by omega
            have y8 : (12 : Int) + (n0 : Int) ≤ (cap : Int) := by have := HCU.out; omega
            have y9 : (L : Int) ≤ (cap : Int) := by have := HCU.out; omega
            obtain ⟨AD, hAD⟩ : ∃ AD, (if cap = 12 + n0 then some (⟨g, 0, none⟩ : Addr) else some ⟨g, 12 + n0, none⟩) = AD := ⟨_, rfl⟩
            obtain ⟨M, hM⟩ : ∃ M, L - (12 + n0) = M := ⟨_, rfl⟩
            have HBD := Lib.hid (show Byt w1 w1.heap.size AD M (out.drop (12 + n0)) by
              have h1 := byt_suf8 HBY1.out (k := 12 + n0) (c := cap) (by omega) HCU.out
              rw [Nat.zero_add, hAD, hM] at h1
              exact h1)
            have HML := Lib.hid (show M ≤ 4194304 by have h1 := HLS.out; have h2 := HNUM.out; omega)
            have y4 : IntKind.u64.wrap ((12 : Int) + (n0 : Int)) = (12 : Int) + (n0 : Int) := by have := HN.out; simp [IntKind.wrap, IntKind.bits, IntKind.signed]; omega
            have r1 := R1.out
            have r2 := R2.out
            have r4 := R4.out
            refine go_on ?_
            go_wp2
            go_loopw [90] (fun i wr => ∃ (k : Nat), i = .int .i64 k ∧ k ≤ M ∧ Below w4.heap.size w4 wr ∧ Hid (∀ j y, j < k → (out.drop (12 + n0))[j]? = some y → y = 0)) (fun i _ => M - (intOf i).toNat)
            case atStart => exact ⟨0, rfl, Nat.zero_le _, Below.refl _ _, Lib.hid (fun j y h => absurd h (Nat.not_lt_zero _))⟩
            case round =>
              obtain ⟨k, rfl, hk, hbe, HZ⟩ := hrel
              have HBE := Lib.hid hbe
              have HBW := Lib.hid (below_more HB4.out hbe)
              have HWW := Lib.hid (below_more HW4.out hbe)
              have hml := HML.out
              clear hbe
              by_cases hlt : k < M
              · have hltz : (k : Int) < (M : Int) := by omega
                obtain ⟨bd, od, rfl, hb1, hcl⟩ := HBD.out.at_ (by omega)
                have hkl : k < (out.drop (12 + n0)).length := by have := HBD.out.len; omega
                have cv := (HBW.out.cell (p := ⟨bd, od + k, none⟩) hb1).trans (hcl k hkl)
                have HY := Lib.hid (List.getElem?_eq_getElem hkl)
                generalize (out.drop (12 + n0))[k]'hkl = y at cv HY
                clear hcl hkl hb1
                by_cases hy : y = 0
                · subst hy
                  have HZ2 := Lib.hid (show ∀ j y, j < k + 1 → (out.drop (12 + n0))[j]? = some y → y = 0 from fun j y hj hjy => by
                    rcases Nat.lt_or_ge j k with h | h
                    · exact HZ.out j y h hjy
                    · obtain rfl : j = k := by omega
                      rw [HY.out] at hjy
                      exact (Option.some.inj hjy).symm)
                  go_wp2
                  go_roundw
                  case rel => exact ⟨k + 1, by go_num, by omega, HBE.out, HZ2⟩
                  case measure => simp [intOf]; omega
                · have q1 : ((y : Int) != 0) = true := by simpa using hy
                  have q2 : ((y : Int) == 0) = false := by simpa using hy
                  have HNO := Lib.hid (HNO2.out (fun h => hy (h y (List.mem_of_getElem? HY.out))))
                  clear hy
                  go_wp2
                  exact ⟨rfl, RdP.bad HWW.out HLE.out HNO.out⟩
              · obtain rfl : k = M := by omega
                have hbk := (HYES.out (by have h1 := HNR.out; have h2 := HCP.out; omega) (fun y hy => by
                  obtain ⟨j, hj, rfl⟩ := List.getElem_of_mem hy
                  exact HZ.out j _ (by have := HBD.out.len; omega) (List.getElem?_eq_getElem hj)))
                have HBK := Lib.hid hbk
                have HPT := Lib.hid (((HBY1.out.mid (p := 12) (n := n0) (by omega)).later HBW.out).up HBW.out.size)
                have HPL := Lib.hid (show ((out.drop 12).take n0).length = n0 by rw [List.length_take, List.length_drop, HOL.out]; omega)
                have HX5W := Lib.hid (HX5'.out.later HBE.out HX5'.out.lt)
                have x50 := HX5W.out.cell 0
                have x51 := HX5W.out.cell 1
                have x5f := HX5W.out.frozen 0
                have x5g := HX5W.out.frozen 1
                have HWS := Lib.hid (show Below w.heap.size w ((wr.setCell ⟨w.heap.size + 1, 0, none⟩ (.int .i64 (n4 : Int))).setCell ⟨w.heap.size + 1, 1, none⟩ (.int .i64 (n8 : Int))) from (HWW.out.setCell (p := ⟨w.heap.size + 1, 0, none⟩) (by show w.heap.size ≤ w.heap.size + 1; omega) _).setCell (p := ⟨w.heap.size + 1, 1, none⟩) (by show w.heap.size ≤ w.heap.size + 1; omega) _)
                have HPS := Lib.hid (show Byt ((wr.setCell ⟨w.heap.size + 1, 0, none⟩ (.int .i64 (n4 : Int))).setCell ⟨w.heap.size + 1, 1, none⟩ (.int .i64 (n8 : Int))) ((wr.setCell ⟨w.heap.size + 1, 0, none⟩ (.int .i64 (n4 : Int))).setCell ⟨w.heap.size + 1, 1, none⟩ (.int .i64 (n8 : Int))).heap.size (some ⟨g, 0 + 12, none⟩) n0 ((out.drop 12).take n0) from byt_set2 HPT.out HNE.out)
                have k1 : IntKind.i64.wrap (n4 : Int) = (n4 : Int) := by have := HN.out; exact IntWalk.i64_in _ (by omega)
                have k2 : IntKind.i64.wrap (n8 : Int) = (n8 : Int) := by have := HN.out; exact IntWalk.i64_in _ (by omega)
                have k3 : (12 : Int) ≤ (12 : Int) + (n0 : Int) := by omega
                have k4 : ¬ cap = 12 := by have h1 := HCU.out; have h2 := HNR.out; omega
                have k5 : 12 + n0 - 12 = n0 := by omega
                have k6 : n0 ≤ cap - 12 := by have h1 := HCU.out; omega
                clear hlt hk hbk
                go_wp2
                have f1 : ((wr.setCell ⟨w.heap.size + 1, 0, none⟩ (.int .i64 (n4 : Int))).setCell ⟨w.heap.size + 1, 1, none⟩ (.int .i64 (n8 : Int))).cell? ⟨w.heap.size + 1, 1, none⟩ = some (.int .i64 (n8 : Int)) := ((HX5W.out.set_ 0 (.int .i64 (n4 : Int))).set_ 1 (.int .i64 (n8 : Int))).cell 1
                have f0 : ((wr.setCell ⟨w.heap.size + 1, 0, none⟩ (.int .i64 (n4 : Int))).setCell ⟨w.heap.size + 1, 1, none⟩ (.int .i64 (n8 : Int))).cell? ⟨w.heap.size + 1, 0, none⟩ = some (.int .i64 (n4 : Int)) := ((HX5W.out.set_ 0 (.int .i64 (n4 : Int))).set_ 1 (.int .i64 (n8 : Int))).cell 0
                generalize (wr.setCell ⟨w.heap.size + 1, 0, none⟩ (.int .i64 (n4 : Int))).setCell ⟨w.heap.size + 1, 1, none⟩ (.int .i64 (n8 : Int)) = wf at *
                refine bodyPost_ret (w := wf) (v := .tuple #[.slice (some ⟨g, 12, none⟩) n0 (cap - 12), .agg #[.int .i64 (n4 : Int), .int .i64 (n8 : Int)], .bool true]) ?_ rfl ?_
                · simp [results, Tryd.results35, go_sem, f0, f1]
                · exact RdP.ok HWS.out HLE.out HBK.out HPL.out HPS.out k6 HNR.out.1 (by have h1 := HNR.out; have h2 := HCP.out; omega) HN.out.2.1 HN.out.2.2 ⟨fun _ => HMO.out, fun _ => rfl⟩ (fun h => by first | exact HMR.out h | exact HMR.out trivial | exact absurd h (by decide)) (fun k o e => by cases e; exact (HOW.out.own.lt _ rfl).1)
        · have y1 : ((n0 : Int) == 0) = false := by simp; omega
          have y2 : (cp : Int) < (n0 : Int) := by omega
          have HNO := Lib.hid (HNO1.out (by have := HCP.out; omega))
          clear hgt
          have r1 := R1.out
          have r2 := R2.out
          have r4 := R4.out
          refine go_on ?_
          go_wp2
          exact ⟨rfl, RdP.bad HW4.out HLE.out HNO.out⟩
      · have HMO := Lib.hid hmo
        clear hmo
        rcases Nat.lt_trichotomy n0 cp with hlt | heq | hgt
        · by_cases h0 : n0 = 0
          · subst h0
            have HNO := Lib.hid (HNO1.out (by omega))
            clear hlt
            have r1 := R1.out
            have r2 := R2.out
            have r4 := R4.out
            refine go_on ?_
            go_wp2
            exact ⟨rfl, RdP.bad HW4.out HLE.out HNO.out⟩
          · have y1 : ((n0 : Int) == 0) = false := by simp; omega
            have y2 : ¬ (cp : Int) < (n0 : Int) := by omega
            have HNR := Lib.hid (show 1 ≤ n0 ∧ n0 ≤ cp by omega)
            have HMR := Lib.hid (show false = true → n0 = s - 16 from fun h => absurd h (by decide))
            clear hlt h0
            have y5 : (12 : Int) + (n0 : Int) ≤ (L : Int) := by have h1 := HNR.out; have h2 := HCP.out; have h3 := HLS.out; omega
            have y6 : (0 : Int) ≤ (12 : Int) + (n0 : Int) := by omega
            have y7 : ((12 : Int) + (n0 : Int)).toNat = 12 + n0 := by omega
            have y8 : (12 : Int) + (n0 : Int) ≤ (cap : Int) := by have := HCU.out; omega
            have y9 : (L : Int) ≤ (cap : Int) := by have := HCU.out; omega
            obtain ⟨AD, hAD⟩ : ∃ AD, (if cap = 12 + n0 then some (⟨g, 0, none⟩ : Addr) else some ⟨g, 12 + n0, none⟩) = AD := ⟨_, rfl⟩
            obtain ⟨M, hM⟩ : ∃ M, L - (12 + n0) = M := ⟨_, rfl⟩
            have HBD := Lib.hid (show Byt w1 w1.heap.size AD M (out.drop (12 + n0)) by
              have h1 := byt_suf8 HBY1.out (k := 12 + n0) (c := cap) (by omega) HCU.out
              rw [Nat.zero_add, hAD, hM] at h1
              exact h1)
            have HML := Lib.hid (show M ≤ 4194304 by have h1 := HLS.out; have h2 := HNUM.out; omega)
            have y4 : IntKind.u64.wrap ((12 : Int) + (n0 : Int)) = (12 : Int) + (n0 : Int) := by have := HN.out; simp [IntKind.wrap, IntKind.bits, IntKind.signed]; omega
            have r1 := R1.out
            have r2 := R2.out
            have r4 := R4.out
            refine go_on ?_
            go_wp2
            go_loopw [90] (fun i wr => ∃ (k : Nat), i = .int .i64 k ∧ k ≤ M ∧ Below w4.heap.size w4 wr ∧ Hid (∀ j y, j < k → (out.drop (12 + n0))[j]? = some y → y = 0)) (fun i _ => M - (intOf i).toNat)
            case atStart => exact ⟨0, rfl, Nat.zero_le _, Below.refl _ _, Lib.hid (fun j y h => absurd h (Nat.not_lt_zero _))⟩
            case round =>
              obtain ⟨k, rfl, hk, hbe, HZ⟩ := hrel
              have HBE := Lib.hid hbe
              have HBW := Lib.hid (below_more HB4.out hbe)
              have HWW := Lib.hid (below_more HW4.out hbe)
              have hml := HML.out
              clear hbe
              by_cases hlt : k < M
              · have hltz : (k : Int) < (M : Int) := by omega
                obtain ⟨bd, od, rfl, hb1, hcl⟩ := HBD.out.at_ (by omega)
                have hkl : k < (out.drop (12 + n0)).length := by have := HBD.out.len; omega
                have cv := (HBW.out.cell (p := ⟨bd, od + k, none⟩) hb1).trans (hcl k hkl)
                have HY := Lib.hid (List.getElem?_eq_getElem hkl)
                generalize (out.drop (12 + n0))[k]'hkl = y at cv HY
                clear hcl hkl hb1
                by_cases hy : y = 0
                · subst hy
                  have HZ2 := Lib.hid (show ∀ j y, j < k + 1 → (out.drop (12 + n0))[j]? = some y → y = 0 from fun j y hj hjy => by
                    rcases Nat.lt_or_ge j k with h | h
                    · exact HZ.out j y h hjy
                    · obtain rfl : j = k := by omega
                      rw [HY.out] at hjy
                      exact (Option.some.inj hjy).symm)
                  go_wp2
                  go_roundw
                  case rel => exact ⟨k + 1, by go_num, by omega, HBE.out, HZ2⟩
                  case measure => simp [intOf]; omega
                · have q1 : ((y : Int) != 0) = true := by simpa using hy
                  have q2 : ((y : Int) == 0) = false := by simpa using hy
                  have HNO := Lib.hid (HNO2.out (fun h => hy (h y (List.mem_of_getElem? HY.out))))
                  clear hy
                  go_wp2
                  exact ⟨rfl, RdP.bad HWW.out HLE.out HNO.out⟩
              · obtain rfl : k = M := by omega
                have hbk := (HYES.out (by have h1 := HNR.out; have h2 := HCP.out; omega) (fun y hy => by
                  obtain ⟨j, hj, rfl⟩ := List.getElem_of_mem hy
                  exact HZ.out j _ (by have := HBD.out.len; omega) (List.getElem?_eq_getElem hj)))
                have HBK := Lib.hid hbk
                have HPT := Lib.hid (((HBY1.out.mid (p := 12) (n := n0) (by omega)).later HBW.out).up HBW.out.size)
                have HPL := Lib.hid (show ((out.drop 12).take n0).length = n0 by rw [List.length_take, List.length_drop, HOL.out]; omega)
                have HX5W := Lib.hid (HX5'.out.later HBE.out HX5'.out.lt)
                have x50 := HX5W.out.cell 0
                have x51 := HX5W.out.cell 1
                have x5f := HX5W.out.frozen 0
                have x5g := HX5W.out.frozen 1
                have HWS := Lib.hid (show Below w.heap.size w ((wr.setCell ⟨w.heap.size + 1, 0, none⟩ (.int .i64 (n4 : Int))).setCell ⟨w.heap.size + 1, 1, none⟩ (.int .i64 (n8 : Int))) from (HWW.out.setCell (p := ⟨w.heap.size + 1, 0, none⟩) (by show w.heap.size ≤ w.heap.size + 1; omega) _).setCell (p := ⟨w.heap.size + 1, 1, none⟩) (by show w.heap.size ≤ w.heap.size + 1; omega) _)
                have HPS := Lib.hid (show Byt ((wr.setCell ⟨w.heap.size + 1, 0, none⟩ (.int .i64 (n4 : Int))).setCell ⟨w.heap.size + 1, 1, none⟩ (.int .i64 (n8 : Int))) ((wr.setCell ⟨w.heap.size + 1, 0, none⟩ (.int .i64 (n4 : Int))).setCell ⟨w.heap.size + 1, 1, none⟩ (.int .i64 (n8 : Int))).heap.size (some ⟨g, 0 + 12, none⟩) n0 ((out.drop 12).take n0) from byt_set2 HPT.out HNE.out)
                have k1 : IntKind.i64.wrap (n4 : Int) = (n4 : Int) := by have := HN.out; exact IntWalk.i64_in _ (by omega)
                have k2 : IntKind.i64.wrap (n8 : Int) = (n8 : Int) := by have := HN.out; exact IntWalk.i64_in _ (by omega)
                have k3 : (12 : Int) ≤ (12 : Int) + (n0 : Int) := by omega
                have k4 : ¬ cap = 12 := by have h1 := HCU.out; have h2 := HNR.out; omega
                have k5 : 12 + n0 - 12 = n0 := by omega
                have k6 : n0 ≤ cap - 12 := by have h1 := HCU.out; omega
                clear hlt hk hbk
                go_wp2
                have f1 : ((wr.setCell ⟨w.heap.size + 1, 0, none⟩ (.int .i64 (n4 : Int))).setCell ⟨w.heap.size + 1, 1, none⟩ (.int .i64 (n8 : Int))).cell? ⟨w.heap.size + 1, 1, none⟩ = some (.int .i64 (n8 : Int)) := ((HX5W.out.set_ 0 (.int .i64 (n4 : Int))).set_ 1 (.int .i64 (n8 : Int))).cell 1
                have f0 : ((wr.setCell ⟨w.heap.size + 1, 0, none⟩ (.int .i64 (n4 : Int))).setCell ⟨w.heap.size + 1, 1, none⟩ (.int .i64 (n8 : Int))).cell? ⟨w.heap.size + 1, 0, none⟩ = some (.int .i64 (n4 : Int)) := ((HX5W.out.set_ 0 (.int .i64 (n4 : Int))).set_ 1 (.int .i64 (n8 : Int))).cell 0
                generalize (wr.setCell ⟨w.heap.size + 1, 0, none⟩ (.int .i64 (n4 : Int))).setCell ⟨w.heap.size + 1, 1, none⟩ (.int .i64 (n8 : Int)) = wf at *
                refine bodyPost_ret (w := wf) (v := .tuple #[.slice (some ⟨g, 12, none⟩) n0 (cap - 12), .agg #[.int .i64 (n4 : Int), .int .i64 (n8 : Int)], .bool false]) ?_ rfl ?_
                · simp [results, Tryd.results35, go_sem, f0, f1]
                · exact RdP.ok HWS.out HLE.out HBK.out HPL.out HPS.out k6 HNR.out.1 (by have h1 := HNR.out; have h2 := HCP.out; omega) HN.out.2.1 HN.out.2.2 ⟨fun h => absurd h (by decide), fun h => absurd HMO.out h⟩ (fun h => by first | exact HMR.out h | exact HMR.out trivial | exact absurd h (by decide)) (fun k o e => by cases e; exact (HOW.out.own.lt _ rfl).1)
        · by_cases h0 : n0 = 0
          · exfalso
            have h1 := HNUM.out
            have h2 := HCP.out
            omega
          · have y1 : ((n0 : Int) == 0) = false := by simp; omega
            have y2 : ¬ (cp : Int) < (n0 : Int) := by omega
            have y3 : ¬ (n0 : Int) < (cp : Int) := by omega
            have HNR := Lib.hid (show 1 ≤ n0 ∧ n0 ≤ cp by omega)
            have HMR := Lib.hid (show false = true → n0 = s - 16 from fun _ => by have := HCP.out; omega)
            clear heq h0
            have y5 : (12 : Int) + (n0 : Int) ≤ (L : Int) := by have h1 := HNR.out; have h2 := HCP.out; have h3 := HLS.out; omega
            have y6 : (0 : Int) ≤ (12 : Int) + (n0 : Int) := by omega
            have y7 : ((12 : Int) + (n0 : Int)).toNat = 12 + n0 := by omega
            have y8 : (12 : Int) + (n0 : Int) ≤ (cap : Int) := by have := HCU.out; omega
            have y9 : (L : Int) ≤ (cap : Int) := by have := HCU.out; omega
            obtain ⟨AD, hAD⟩ : ∃ AD, (if cap = 12 + n0 then some (⟨g, 0, none⟩ : Addr) else some ⟨g, 12 + n0, none⟩) = AD := ⟨_, rfl⟩
            obtain ⟨M, hM⟩ : ∃ M, L - (12 + n0) = M := ⟨_, rfl⟩
            have HBD := Lib.hid (show Byt w1 w1.heap.size AD M (out.drop (12 + n0)) by
              have h1 := byt_suf8 HBY1.out (k := 12 + n0) (c := cap) (by omega) HCU.out
              rw [Nat.zero_add, hAD, hM] at h1
              exact h1)
            have HML := Lib.hid (show M ≤ 4194304 by have h1 := HLS.out; have h2 := HNUM.out; omega)
            have y4 : IntKind.u64.wrap ((12 : Int) + (n0 : Int)) = (12 : Int) + (n0 : Int) := by have := HN.out; simp [IntKind.wrap, IntKind.bits, IntKind.signed]; omega
            have r1 := R1.out
            have r2 := R2.out
            have r4 := R4.out
            refine go_on ?_
            go_wp2
            go_loopw [90] (fun i wr => ∃ (k : Nat), i = .int .i64 k ∧ k ≤ M ∧ Below w4.heap.size w4 wr ∧ Hid (∀ j y, j < k → (out.drop (12 + n0))[j]? = some y → y = 0)) (fun i _ => M - (intOf i).toNat)
            case atStart => exact ⟨0, rfl, Nat.zero_le _, Below.refl _ _, Lib.hid (fun j y h => absurd h (Nat.not_lt_zero _))⟩
            case round =>
              obtain ⟨k, rfl, hk, hbe, HZ⟩ := hrel
              have HBE := Lib.hid hbe
              have HBW := Lib.hid (below_more HB4.out hbe)
              have HWW := Lib.hid (below_more HW4.out hbe)
              have hml := HML.out
              clear hbe
              by_cases hlt : k < M
              · have hltz : (k : Int) < (M : Int) := by omega
                obtain ⟨bd, od, rfl, hb1, hcl⟩ := HBD.out.at_ (by omega)
                have hkl : k < (out.drop (12 + n0)).length := by have := HBD.out.len; omega
                have cv := (HBW.out.cell (p := ⟨bd, od + k, none⟩) hb1).trans (hcl k hkl)
                have HY := Lib.hid (List.getElem?_eq_getElem hkl)
                generalize (out.drop (12 + n0))[k]'hkl = y at cv HY
                clear hcl hkl hb1
                by_cases hy : y = 0
                · subst hy
                  have HZ2 := Lib.hid (show ∀ j y, j < k + 1 → (out.drop (12 + n0))[j]? = some y → y = 0 from fun j y hj hjy => by
                    rcases Nat.lt_or_ge j k with h | h
                    · exact HZ.out j y h hjy
                    · obtain rfl : j = k := by omega
                      rw [HY.out] at hjy
                      exact (Option.some.inj hjy).symm)
                  go_wp2
                  go_roundw
                  case rel => exact ⟨k + 1, by go_num, by omega, HBE.out, HZ2⟩
                  case measure => simp [intOf]; omega
                · have q1 : ((y : Int) != 0) = true := by simpa using hy
                  have q2 : ((y : Int) == 0) = false := by simpa using hy
                  have HNO := Lib.hid (HNO2.out (fun h => hy (h y (List.mem_of_getElem? HY.out))))
                  clear hy
                  go_wp2
                  exact ⟨rfl, RdP.bad HWW.out HLE.out HNO.out⟩
              · obtain rfl : k = M := by omega
                have hbk := (HYES.out (by have h1 := HNR.out; have h2 := HCP.out; omega) (fun y hy => by
                  obtain ⟨j, hj, rfl⟩ := List.getElem_of_mem hy
                  exact HZ.out j _ (by have := HBD.out.len; omega) (List.getElem?_eq_getElem hj)))
                have HBK := Lib.hid hbk
                have HPT := Lib.hid (((HBY1.out.mid (p := 12) (n := n0) (by omega)).later HBW.out).up HBW.out.size)
                have HPL := Lib.hid (show ((out.drop 12).take n0).length = n0 by rw [List.length_take, List.length_drop, HOL.out]; omega)
                have HX5W := Lib.hid (HX5'.out.later HBE.out HX5'.out.lt)
                have x50 := HX5W.out.cell 0
                have x51 := HX5W.out.cell 1
                have x5f := HX5W.out.frozen 0
                have x5g := HX5W.out.frozen 1
                have HWS := Lib.hid (show Below w.heap.size w ((wr.setCell ⟨w.heap.size + 1, 0, none⟩ (.int .i64 (n4 : Int))).setCell ⟨w.heap.size + 1, 1, none⟩ (.int .i64 (n8 : Int))) from (HWW.out.setCell (p := ⟨w.heap.size + 1, 0, none⟩) (by show w.heap.size ≤ w.heap.size + 1; omega) _).setCell (p := ⟨w.heap.size + 1, 1, none⟩) (by show w.heap.size ≤ w.heap.size + 1; omega) _)
                have HPS := Lib.hid (show Byt ((wr.setCell ⟨w.heap.size + 1, 0, none⟩ (.int .i64 (n4 : Int))).setCell ⟨w.heap.size + 1, 1, none⟩ (.int .i64 (n8 : Int))) ((wr.setCell ⟨w.heap.size + 1, 0, none⟩ (.int .i64 (n4 : Int))).setCell ⟨w.heap.size + 1, 1, none⟩ (.int .i64 (n8 : Int))).heap.size (some ⟨g, 0 + 12, none⟩) n0 ((out.drop 12).take n0) from byt_set2 HPT.out HNE.out)
                have k1 : IntKind.i64.wrap (n4 : Int) = (n4 : Int) := by have := HN.out; exact IntWalk.i64_in _ (by omega)
                have k2 : IntKind.i64.wrap (n8 : Int) = (n8 : Int) := by have := HN.out; exact IntWalk.i64_in _ (by omega)
                have k3 : (12 : Int) ≤ (12 : Int) + (n0 : Int) := by omega
                have k4 : ¬ cap = 12 := by have h1 := HCU.out; have h2 := HNR.out; omega
                have k5 : 12 + n0 - 12 = n0 := by omega
                have k6 : n0 ≤ cap - 12 := by have h1 := HCU.out; omega
                clear hlt hk hbk
                go_wp2
                have f1 : ((wr.setCell ⟨w.heap.size + 1, 0, none⟩ (.int .i64 (n4 : Int))).setCell ⟨w.heap.size + 1, 1, none⟩ (.int .i64 (n8 : Int))).cell? ⟨w.heap.size + 1, 1, none⟩ = some (.int .i64 (n8 : Int)) := ((HX5W.out.set_ 0 (.int .i64 (n4 : Int))).set_ 1 (.int .i64 (n8 : Int))).cell 1
                have f0 : ((wr.setCell ⟨w.heap.size + 1, 0, none⟩ (.int .i64 (n4 : Int))).setCell ⟨w.heap.size + 1, 1, none⟩ (.int .i64 (n8 : Int))).cell? ⟨w.heap.size + 1, 0, none⟩ = some (.int .i64 (n4 : Int)) := ((HX5W.out.set_ 0 (.int .i64 (n4 : Int))).set_ 1 (.int .i64 (n8 : Int))).cell 0
                generalize (wr.setCell ⟨w.heap.size + 1, 0, none⟩ (.int .i64 (n4 : Int))).setCell ⟨w.heap.size + 1, 1, none⟩ (.int .i64 (n8 : Int)) = wf at *
                refine bodyPost_ret (w := wf) (v := .tuple #[.slice (some ⟨g, 12, none⟩) n0 (cap - 12), .agg #[.int .i64 (n4 : Int), .int .i64 (n8 : Int)], .bool false]) ?_ rfl ?_
                · simp [results, Tryd.results35, go_sem, f0, f1]
                · exact RdP.ok HWS.out HLE.out HBK.out HPL.out HPS.out k6 HNR.out.1 (by have h1 := HNR.out; have h2 := HCP.out; omega) HN.out.2.1 HN.out.2.2 ⟨fun h => absurd h (by decide), fun h => absurd HMO.out h⟩ (fun h => by first | exact HMR.out h | exact HMR.out trivial | exact absurd h (by decide)) (fun k o e => by cases e; exact (HOW.out.own.lt _ rfl).1)
        · have y1 : ((n0 : Int) == 0) = false := by simp; omega
          have y2 : (cp : Int) < (n0 : Int) := by omega
          have HNO := Lib.hid (HNO1.out (by have := HCP.out; omega))
          clear hgt
          have r1 := R1.out
          have r2 := R2.out
          have r4 := R4.out
          refine go_on ?_
          go_wp2
          exact ⟨rfl, RdP.bad HW4.out HLE.out HNO.out⟩
end Go.Proofs.YtcgapkepbnbabaaDoor.X5
