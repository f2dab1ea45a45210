/- The law DatatypeLoads, the walk. -/
import Derived.Test.YtbdhihgokkcmfaaScg
import Derived.Test.YtbdhihgokkcmfaaEa
import Derived.Test.YtbdhihgokkcmfaaLh
namespace Go.Proofs.Ytbdhihgokkcmfaa.Ty9
set_option linter.unusedVariables false
set_option linter.unusedSimpArgs false
open Go.RowKit Wd

theorem strOf_app (a b : List Nat) : strOf (a ++ b) = strOf a ++ strOf b := by
  unfold strOf
  rw [ByteArray.ext_iff]
  simp [ByteArray.data_append]
theorem rowb_cap {w : World} {base : Nat} {V : Value} {bs : List Nat} (h : RowB w base V bs) : ∃ A c, V = .slice A bs.length c ∧ bs.length ≤ c ∧ Byt w w.heap.size A bs.length bs := by
  obtain ⟨A, c, rfl, hb⟩ := h.byt
  rcases h.own.2 with ⟨hv, h1⟩ | ⟨g, cap, cur, hv, _, _, hc, _⟩
  · injection hv with e1 e2 e3
    exact ⟨A, c, rfl, by omega, hb⟩
  · injection hv with e1 e2 e3
    exact ⟨A, c, rfl, by omega, hb⟩
theorem byt_pre {w : World} {B : Nat} {A : Option Addr} {m k : Nat} {bs : List Nat} (h : Byt w B A m bs) (hk : k ≤ m) : Byt w B A k (bs.take k) :=
  ⟨by rw [List.length_take, h.len]; omega, fun x hx => h.lt x (List.mem_of_mem_take hx), fun h0 => by
    obtain ⟨b, o, e, h1, h2⟩ := h.at_ (by omega)
    refine ⟨b, o, e, h1, fun j hj => ?_⟩
    rw [List.getElem_take]
    exact h2 j (by rw [List.length_take] at hj; omega)⟩

set_option maxHeartbeats 8000000 in
set_option maxRecDepth 100000 in
theorem loads_walk (w : World) (A : Option Addr) (n C : Nat) (bs : List Nat) (hn : n ≤ 140737488355328) (hc : n ≤ C) (h : Byt w w.heap.size A n bs) :
    Calls Try.prog 10 #[.slice A n C] w fun e w' => e = .returned (.bool true) ∧ Below w.heap.size w w' := by
  have HB := Lib.hid h
  have HL := Lib.hid h.len
  have HC := Lib.hid hc
  clear h hc
  by_cases hbig : 20000 < n
  · have z1 : (20000 : Int) < (n : Int) := by omega
    clear hbig
    go_enter Try.func10, Try.ntmps10
    go_wp2_with (go_at_call 13; refine (lives_any _).mono ?_; rintro _ w2 ⟨rfl, hb⟩; refine Hid.out ?_)
    have HB2 := Lib.hid hb
    clear hb
    refine go_on ?_
    go_wp2
    go_ret
    exact ⟨rfl, HB2.out⟩
  have z1 : ¬ (20000 : Int) < (n : Int) := by omega
  have HN := Lib.hid (show n ≤ 20000 by omega)
  clear hbig hn
  have HR1 := Lib.hid (RowB.lit w [] (fun x h => absurd h (List.not_mem_nil)) (by simp) (Nat.le_refl w.heap.size))
  have HA1 := Lib.hid (below_new w (.cells (by8 []).toArray 5))
  have HBA := Lib.hid (HB.out.later HA1.out)
  go_enter Try.func10, Try.ntmps10
  go_wp2_with (at_builtin; refine wp_rowb rfl (.tmp 12) (.tmp 13) rfl w.heap.size n C _ [] bs A w.heap.size rfl rfl HR1.out HBA.out (by have := HN.out; show 0 + n ≤ _; omega) HA1.out.size ?_; intro V2 w2 hrow2 hb2; refine Hid.out ?_)
  rw [List.nil_append] at hrow2
  have HB2 := Lib.hid (HA1.out.trans hb2)
  obtain ⟨A2, C2, hV⟩ := own_form hrow2.own
  rw [HL.out] at hV
  subst hV
  have HR2 := Lib.hid (hrow2.below (below_new w2 (.cells (by8 [90]).toArray 5)))
  have HY2 := Lib.hid (Byt.lit w2 [90] (by decide))
  have HA2 := Lib.hid (below_new w2 (.cells (by8 [90]).toArray 5))
  clear hrow2 hb2 HR1 HA1 HBA
  refine go_on ?_
  go_wp2_with (at_builtin; refine wp_rowb rfl (.tmp 14) (.tmp 15) rfl w.heap.size 1 1 _ bs [90] (some ⟨w2.heap.size, 0, none⟩) _ rfl rfl HR2.out HY2.out (by have h1 := HN.out; have h2 := HL.out; omega) (Nat.le_trans HB2.out.size HA2.out.size) ?_; intro V3 w3 hrow3 hb3; refine Hid.out ?_)
  have HB3 := Lib.hid (HB2.out.trans ((HA2.out.mono HB2.out.size).trans hb3))
  obtain ⟨A5, C5, hV, hc5, hby5⟩ := rowb_cap hrow3
  have hl3 : (bs ++ [90]).length = n + 1 := by rw [List.length_append, HL.out]; rfl
  rw [hl3] at hV hc5 hby5
  subst hV
  have HY5 := Lib.hid hby5
  have HYP := Lib.hid (show Byt w3 w3.heap.size A5 n bs by
    have h1 := byt_pre hby5 (k := n) (by omega)
    rw [List.take_append_of_le_length (by rw [HL.out]; exact Nat.le_refl _), List.take_of_length_le (by rw [HL.out]; exact Nat.le_refl _)] at h1
    exact h1)
  have k1 : (n : Int) ≤ (C5 : Int) := by omega
  have k2 : (0 : Int) ≤ (n : Int) := by omega
  have HLD := Lib.hid (pload_any n C5 A5 bs w3 (by have := HN.out; omega) (by omega) HYP.out)
  clear hrow3 hb3 hc5 hby5 hl3 HR2 HY2 HA2
  refine go_on ?_
  go_wp2_with (go_at_call 29; refine HLD.out.mono ?_)
  rintro _ w4 ⟨t, z, u0, u1, u2, u3, u4, u5, u6, S, eR, rfl, hL4, hS4, hb4⟩
  obtain ⟨fAt, dAt, bAt, nAt, fCt, dCt, bCt, nCt, rfl, rfl, rfl, rfl, rfl, rfl, rfl⟩ := hL4.here.cells
  have HB43 := Lib.hid hb4
  have HER := Lib.hid eR
  have hn4 := below_new w4 (.cells #[.int .i64 t.c, .int .i64 t.w, .bool t.big, .slice fAt t.fs.length fCt, .slice dAt t.ds.length dCt, .slice bAt t.bs.length bCt, .slice nAt t.ns.length nCt] 28)
  have HT4 := Lib.hid (Bx.new w4 28 #[.int .i64 t.c, .int .i64 t.w, .bool t.big, .slice fAt t.fs.length fCt, .slice dAt t.ds.length dCt, .slice bAt t.bs.length bCt, .slice nAt t.ns.length nCt])
  have HL4 := Lib.hid (hL4.keep (w2 := w4.alloc (.cells #[.int .i64 t.c, .int .i64 t.w, .bool t.big, .slice fAt t.fs.length fCt, .slice dAt t.ds.length dCt, .slice bAt t.bs.length bCt, .slice nAt t.ns.length nCt] 28)) (fun k hk => hn4.block k (hL4.1 k hk)) hn4.size)
  have HB4 := Lib.hid (HB3.out.trans ((below_more hb4 hn4).mono HB3.out.size))
  have HB4a := Lib.hid (below_more hb4 hn4)
  have HLR := Lib.hid (rload_any n C A bs (w4.alloc (.cells #[.int .i64 t.c, .int .i64 t.w, .bool t.big, .slice fAt t.fs.length fCt, .slice dAt t.ds.length dCt, .slice bAt t.bs.length bCt, .slice nAt t.ns.length nCt] 28)) (by have := HN.out; omega) HC.out ((HB.out.later HB4.out).up HB4.out.size))
  clear hL4 hS4 hb4 hn4 eR HLD k1 k2
  go_wp2_with (go_at_call 30; refine HLR.out.mono ?_)
  rintro _ w5 ⟨r, y, v0, v1, v2, v3, v4, v5, v6, S5, eR5, rfl, hL5, hS5, hb5⟩
  have hrt := HER.out.symm.trans eR5
  injection hrt with hr1 hr2
  subst hr1 hr2
  obtain ⟨fAr, dAr, bAr, nAr, fCr, dCr, bCr, nCr, rfl, rfl, rfl, rfl, rfl, rfl, rfl⟩ := hL5.here.cells
  have hn5 := below_new w5 (.cells #[.int .i64 t.c, .int .i64 t.w, .bool t.big, .slice fAr t.fs.length fCr, .slice dAr t.ds.length dCr, .slice bAr t.bs.length bCr, .slice nAr t.ns.length nCr] 28)
  have HT5 := Lib.hid (Bx.new w5 28 #[.int .i64 t.c, .int .i64 t.w, .bool t.big, .slice fAr t.fs.length fCr, .slice dAr t.ds.length dCr, .slice bAr t.bs.length bCr, .slice nAr t.ns.length nCr])
  have hb45 := below_more hb5 hn5
  have HT45 := Lib.hid (HT4.out.later hb45 HT4.out.lt)
  have HL5 := Lib.hid (hL5.keep (w2 := (w5.alloc (.cells #[.int .i64 t.c, .int .i64 t.w, .bool t.big, .slice fAr t.fs.length fCr, .slice dAr t.ds.length dCr, .slice bAr t.bs.length bCr, .slice nAr t.ns.length nCr] 28))) (fun k hk => hn5.block k (hL5.1 k hk)) hn5.size)
  have HL45 := Lib.hid (HL4.out.keep (w2 := (w5.alloc (.cells #[.int .i64 t.c, .int .i64 t.w, .bool t.big, .slice fAr t.fs.length fCr, .slice dAr t.ds.length dCr, .slice bAr t.bs.length bCr, .slice nAr t.ns.length nCr] 28))) (fun k hk => hb45.block k (HL4.out.1 k hk)) hb45.size)
  have HB53 := Lib.hid (below_more HB4a.out hb45)
  have HB5 := Lib.hid (below_more HB4.out hb45)
  clear hL5 hS5 hb5 hn5 hb45 eR5 HLR
  go_upto_region 6 with fail
  generalize (w5.alloc (.cells #[.int .i64 t.c, .int .i64 t.w, .bool t.big, .slice fAr t.fs.length fCr, .slice dAr t.ds.length dCr, .slice bAr t.bs.length bCr, .slice nAr t.ns.length nCr] 28)) = w6 at *
  have a0 : w6.cell? ⟨w4.heap.size, 0, none⟩ = some (.int .i64 t.c) := HT45.out.cell 0
  have a1 : w6.cell? ⟨w4.heap.size, 1, none⟩ = some (.int .i64 t.w) := HT45.out.cell 1
  have a2 : w6.cell? ⟨w4.heap.size, 2, none⟩ = some (.bool t.big) := HT45.out.cell 2
  have a3 : w6.cell? ⟨w4.heap.size, 3, none⟩ = some (.slice fAt t.fs.length fCt) := HT45.out.cell 3
  have a4 : w6.cell? ⟨w4.heap.size, 4, none⟩ = some (.slice dAt t.ds.length dCt) := HT45.out.cell 4
  have a5 : w6.cell? ⟨w4.heap.size, 5, none⟩ = some (.slice bAt t.bs.length bCt) := HT45.out.cell 5
  have a6 : w6.cell? ⟨w4.heap.size, 6, none⟩ = some (.slice nAt t.ns.length nCt) := HT45.out.cell 6
  have b0 : w6.cell? ⟨w5.heap.size, 0, none⟩ = some (.int .i64 t.c) := HT5.out.cell 0
  have b1 : w6.cell? ⟨w5.heap.size, 1, none⟩ = some (.int .i64 t.w) := HT5.out.cell 1
  have b2 : w6.cell? ⟨w5.heap.size, 2, none⟩ = some (.bool t.big) := HT5.out.cell 2
  have b3 : w6.cell? ⟨w5.heap.size, 3, none⟩ = some (.slice fAr t.fs.length fCr) := HT5.out.cell 3
  have b4 : w6.cell? ⟨w5.heap.size, 4, none⟩ = some (.slice dAr t.ds.length dCr) := HT5.out.cell 4
  have b5 : w6.cell? ⟨w5.heap.size, 5, none⟩ = some (.slice bAr t.bs.length bCr) := HT5.out.cell 5
  have b6 : w6.cell? ⟨w5.heap.size, 6, none⟩ = some (.slice nAr t.ns.length nCr) := HT5.out.cell 6
  have HSM := Lib.hid (same_refl t _ _ w6 HL45.out.here HL5.out.here)
  go_wp2_with (go_at_call 18; refine HSM.out.mono ?_)
  rintro _ w7 ⟨rfl, hb7⟩
  have HB73 := Lib.hid (below_more HB53.out hb7)
  have HB7 := Lib.hid (below_more HB5.out hb7)
  clear hb7 HSM a0 a1 a2 a3 a4 a5 a6 b0 b1 b2 b3 b4 b5 b6
  have hcv1 := conv_bytes ((HY5.out.later HB73.out)) C5
  have hcv2 := conv_bytes ((HB.out.later HB7.out)) C
  have n2 : (z == z) = true := by simp
  rw [strOf_app, show strOf [90] = (⟨#[90]⟩ : ByteArray) from rfl] at hcv1
  obtain ⟨ss, hss⟩ : ∃ ss, strOf bs = ss := ⟨_, rfl⟩
  have HSS := Lib.hid hss
  rw [hss] at hcv1 hcv2
  have zs2 : ((ss ++ (⟨#[90]⟩ : ByteArray)).toList == (ss ++ (⟨#[90]⟩ : ByteArray)).toList) = true := by simp
  have hsz : ¬ (9223372036854775807 < ss.size + 1) := by
    have h1 : ss.size = bs.length := by rw [← hss]; simp [strOf, ByteArray.size]
    have h2 := HL.out
    have h3 := HN.out
    omega
  clear hss
  go_wp2_with (go_at_call 13; refine (lives_any _).mono ?_)
  first
    | rintro _ w8 rfl hb8
    | rintro _ w8 ⟨rfl, hb8⟩
  have HB8 := Lib.hid (below_more HB7.out hb8)
  clear hb8 hcv1 hcv2 hsz
  go_wp2
  go_ret
  exact ⟨rfl, HB8.out⟩
end Go.Proofs.Ytbdhihgokkcmfaa.Ty9
