/- Places of the program. -/
import Derived.Test.YtbdhihgokkcmfaaPj
import Derived.Laws.EntriesVeiled
namespace Go.Proofs.Ytbdhihgokkcmfaa.Ty9
set_option linter.unusedVariables false
set_option linter.unusedSimpArgs false
open Go.RowKit Wd

theorem cells_len (xs : List Pl) : (xs.flatMap Pl.cells).length = xs.length * 4 := by
  induction xs with
  | nil => rfl
  | cons x xs ih => rw [List.flatMap_cons, List.length_append, ih]; simp [Pl.cells]; omega

/-- Behind the append and the store. -/
theorem PSt.put {gw go base : Nat} {V V' : Value} {xs ys : List Pl} {w w1 : World} (h : PSt gw go base V xs w) (hgg : gw ≠ go) (hgw : gw < base) (hgo : go < base)
    (hg : Gr go V.ownBlock w w1) (ho : Bx w1 go 39 #[V]) (hown : w1.ownsRow base 46 4 V' ys.length (ys.flatMap Pl.cells)) : PSt gw go base V' ys (w1.setCell ⟨go, 0, none⟩ V') := by
  obtain ⟨hn1, hn2⟩ := h.ne hgw hgo
  have hw1 := hg.bx h.walk hgg hn1
  exact ⟨(Below.heap_setCell _ _ _ _ hgg).trans hw1, ho.set_ 0 V', ownsRow_setCell_other hown (fun e => by have := (hown.lt go e).1; omega) V'⟩

set_option maxHeartbeats 2000000 in
set_option maxRecDepth 100000 in
theorem pl_num (gw go base : Nat) (hgg : gw ≠ go) (hgw : gw < base) (hgo : go < base) (c wd : Int) (bg : Bool) (f d b n : Value) (p : Int) (V : Value) (xs : List Pl) (w : World)
    (hc : c ≠ 4 ∧ c ≠ 5 ∧ c ≠ 6 ∧ c ≠ 7) (hx : xs.length ≤ 100000) (hb : base ≤ w.heap.size) (hs : PSt gw go base V xs w) (hf : ∃ a l c, f = .slice a l c) (hd : ∃ a l c, d = .slice a l c) (hbb : ∃ a l c, b = .slice a l c) (hn : ∃ a l c, n = .slice a l c) :
    Calls Try.prog 35 #[.agg #[.int .i64 c, .int .i64 wd, .bool bg, f, d, b, n], .int .i64 p, .pointer (some ⟨gw, 0, none⟩), .pointer (some ⟨go, 0, none⟩)] w (PPost gw go base V (xs ++ [⟨p, c, wd, bg⟩]) w) := by
  obtain ⟨fa, fl, fc, rfl⟩ := hf
  obtain ⟨da, dl, dc, rfl⟩ := hd
  obtain ⟨ba, bl, bc, rfl⟩ := hbb
  obtain ⟨na, nl, nc, rfl⟩ := hn
  obtain ⟨i0, hi0, hz0, hz1, hz2⟩ := info_parts place_info
  obtain ⟨hn1, hn2⟩ := hs.ne hgw hgo
  have c4 : (c == 4) = false := beq_eq_false_iff_ne.mpr hc.1
  have c5 : (c == 5) = false := beq_eq_false_iff_ne.mpr hc.2.1
  have c6 : (c == 6) = false := beq_eq_false_iff_ne.mpr hc.2.2.1
  have c7 : (c == 7) = false := beq_eq_false_iff_ne.mpr hc.2.2.2
  have hlt := hs.out.lt
  have HBX := Lib.hid (Bx.new w 28 #[.int .i64 c, .int .i64 wd, .bool bg, .slice fa fl fc, .slice da dl dc, .slice ba bl bc, .slice na nl nc])
  have HBN := Lib.hid (below_new w (.cells #[.int .i64 c, .int .i64 wd, .bool bg, .slice fa fl fc, .slice da dl dc, .slice ba bl bc, .slice na nl nc] 28))
  have HS1 := Lib.hid (hs.below HBN.out)
  have o0 := (hs.out.cell 0)
  generalize hA : (Obj.cells #[.int .i64 c, .int .i64 wd, .bool bg, .slice fa fl fc, .slice da dl dc, .slice ba bl bc, .slice na nl nc] 28) = OA at *
  have HA := Lib.hid hA
  have HS2 := Lib.hid (HS1.out.below (below_new _ (.cells #[.int .i64 p, .int .i64 c, .int .i64 wd, .bool bg] 46)))
  have HNW := Lib.hid (Bx.new2 w OA 46 #[.int .i64 p, .int .i64 c, .int .i64 wd, .bool bg])
  have HNC := Lib.hid (show ∀ j u, (Pl.cells ⟨p, c, wd, bg⟩)[j]? = some u → ((w.alloc OA).alloc (.cells #[.int .i64 p, .int .i64 c, .int .i64 wd, .bool bg] 46)).cell? ((⟨w.heap.size + 1, 0, none⟩ : Addr).add j) = some u from fun j u hu => by
    have hadd : (⟨w.heap.size + 1, 0, none⟩ : Addr).add j = ⟨w.heap.size + 1, j, none⟩ := by simp [Addr.add]; omega
    rw [hadd, HNW.out.cell j]
    simpa [Pl.cells] using hu)
  have HBB := Lib.hid (show base ≤ ((w.alloc OA).alloc (.cells #[.int .i64 p, .int .i64 c, .int .i64 wd, .bool bg] 46)).heap.size by simp; omega)
  have HWW := Lib.hid (show Below w.heap.size w ((w.alloc OA).alloc (.cells #[.int .i64 p, .int .i64 c, .int .i64 wd, .bool bg] 46)) from below_more (below_new _ _) (below_new _ _))
  subst hA
  have HS := Lib.hid hs
  clear hs hc
  go_enter Try.func35, Try.ntmps35
  go_wp2_with (at_builtin; refine wpList_append_own_at _ rfl (.tmp 12) (.tmp 21) 39 rfl base 46 i0 _ 4 32 Try.underlying39 hi0 hz0 hz1 hz2 rfl (by decide) V xs.length (xs.flatMap Pl.cells) rfl HS2.out.own ⟨w.heap.size + 1, 0, none⟩ 1 1 (Pl.cells ⟨p, c, wd, bg⟩) rfl rfl HNC.out (by simp [Pl.cells, Value.oneCell']) (by unfold maxLen; omega) (by omega) HBB.out ?_; intro V' w1 hown1 hg1 _ hat1; obtain ⟨A1, C1, rfl⟩ := own_form hown1; have ho1 := Bx.cell (show Bx w1 go 39 #[V] from (hg1.block go (by simp; omega) hn2).trans HS2.out.out) 0; have ho2 := Bx.frozen (show Bx w1 go 39 #[V] from (hg1.block go (by simp; omega) hn2).trans HS2.out.out) 0)
  have HG1 := Lib.hid (Gr.trans (Gr.of_below HWW.out) (.inl rfl) (Gr.of_grown (go := go) hg1))
  have HO1 := Lib.hid (show Bx w1 go 39 #[V] from (hg1.block go (by simp; omega) hn2).trans HS2.out.out)
  have HOW := Lib.hid hown1
  clear hg1 hown1
  go_end0
  refine ⟨rfl, _, HS.out.put hgg hgw hgo HG1.out HO1.out ?_, HG1.out.set 0 _, ?_⟩
  · have h := HOW.out
    rw [List.length_append, List.flatMap_append]
    simpa using h
  · rcases hat1 with h | h
    · exact .inl h
    · exact .inr ⟨_, h, by simp; omega⟩

set_option maxHeartbeats 2000000 in
set_option maxRecDepth 100000 in
theorem pl_cplx (gw go base : Nat) (hgg : gw ≠ go) (hgw : gw < base) (hgo : go < base) (wd : Int) (bg : Bool) (f d b n : Value) (p : Int) (V : Value) (xs : List Pl) (w : World)
    (hp0 : -1000000 ≤ p) (hp1 : p ≤ 1000000) (hw0 : 0 ≤ wd) (hw1 : wd ≤ 1000000) (hx : xs.length ≤ 99999) (hb : base ≤ w.heap.size) (hs : PSt gw go base V xs w) (hf : ∃ a l c, f = .slice a l c) (hd : ∃ a l c, d = .slice a l c) (hbb : ∃ a l c, b = .slice a l c) (hn : ∃ a l c, n = .slice a l c) :
    Calls Try.prog 35 #[.agg #[.int .i64 4, .int .i64 wd, .bool bg, f, d, b, n], .int .i64 p, .pointer (some ⟨gw, 0, none⟩), .pointer (some ⟨go, 0, none⟩)] w (PPost gw go base V (xs ++ [⟨p, 3, wd, bg⟩, ⟨p + wd, 3, wd, bg⟩]) w) := by
  obtain ⟨fa, fl, fc, rfl⟩ := hf
  obtain ⟨da, dl, dc, rfl⟩ := hd
  obtain ⟨ba, bl, bc, rfl⟩ := hbb
  obtain ⟨na, nl, nc, rfl⟩ := hn
  obtain ⟨hn1, hn2⟩ := hs.ne hgw hgo
  have hlt := hs.out.lt
  have hlt2 := hs.walk.lt
  have HBN := Lib.hid (below_new w (.cells #[.int .i64 3, .int .i64 wd, .bool bg, .slice fa fl fc, .slice da dl dc, .slice ba bl bc, .slice na nl nc] 28))
  have HBX := Lib.hid (Bx.new w 28 #[.int .i64 3, .int .i64 wd, .bool bg, .slice fa fl fc, .slice da dl dc, .slice ba bl bc, .slice na nl nc])
  have HS1 := Lib.hid (hs.below HBN.out)
  have o0 := hs.walk.cell 0
  have hown := hs.own.lt
  have HOW := Lib.hid hown
  clear hs hown
  go_enter Try.func35, Try.ntmps35
  go_wp2_with (go_at_call 35; refine (pl_num gw go base hgg hgw hgo 3 wd bg _ _ _ _ p V xs _ (by omega) (by omega) ?_ ?_ ⟨_, _, _, rfl⟩ ⟨_, _, _, rfl⟩ ⟨_, _, _, rfl⟩ ⟨_, _, _, rfl⟩).mono ?_)
  · simp; omega
  · exact HS1.out
  rintro _ w2 ⟨rfl, V2, hs2, hg2, ho2⟩
  have HS2 := Lib.hid hs2
  have hlt3 := hg2.size
  simp at hlt3
  have HG2 := Lib.hid hg2
  have HO2 := Lib.hid ho2
  have hw2 := hs2.walk.cell 0
  have hbx2 := hg2.bx HBX.out (by omega) (fun e => by have := (HOW.out _ e.symm).2; omega)
  have b0 := hbx2.cell 0
  have b1 := hbx2.cell 1
  have b2 := hbx2.cell 2
  have b3 := hbx2.cell 3
  have b4 := hbx2.cell 4
  have b5 := hbx2.cell 5
  have b6 := hbx2.cell 6
  clear hs2 hg2 ho2 hbx2 o0
  go_wp2_with (go_at_call 35; refine (pl_num gw go base hgg hgw hgo 3 wd bg _ _ _ _ (p + wd) V2 (xs ++ [⟨p, 3, wd, bg⟩]) w2 (by omega) (by rw [List.length_append]; exact Nat.succ_le_succ hx) ?_ ?_ ⟨_, _, _, rfl⟩ ⟨_, _, _, rfl⟩ ⟨_, _, _, rfl⟩ ⟨_, _, _, rfl⟩).mono ?_)
  · omega
  · exact HS2.out
  rintro _ w3 ⟨rfl, V3, hs3, hg3, ho3⟩
  have HS3 := Lib.hid hs3
  have HG3 := Lib.hid hg3
  have HO3 := Lib.hid ho3
  clear hs3 hg3 ho3
  go_wp2
  go_end0
  refine ⟨rfl, V3, ?_, ?_, ?_⟩
  · have h := HS3.out
    rw [List.append_assoc] at h
    exact h
  · refine (Gr.of_below HBN.out).trans (.inl rfl) (HG2.out.trans ?_ HG3.out)
    exact HO2.out
  · have h2 := HO2.out
    have h3 := HO3.out
    rcases h3 with h3 | ⟨k, h3, hk⟩
    · rcases h2 with h2 | ⟨k, h2, hk⟩
      · exact .inl (h3.trans h2)
      · exact .inr ⟨k, h3.trans h2, by simp at hk; omega⟩
    · exact .inr ⟨k, h3, by omega⟩

theorem flds_ok {S : Ty → Int} {W : Int} (hW : W ≠ 0) : ∀ (fs : List Fd) (pre : List ByteArray) (e : Int), flds S W fs pre e ≠ 0 → flds S W fs pre e = W
  | [], _, _, _ => rfl
  | f :: fs, pre, e, h => by
    rw [flds] at h ⊢
    split at h
    · exact absurd rfl h
    rename_i hg
    rw [if_neg hg]
    exact flds_ok hW fs _ _ h
theorem flds_cons {S : Ty → Int} {W : Int} {f : Fd} {fs : List Fd} {pre : List ByteArray} {e : Int} (h : flds S W (f :: fs) pre e ≠ 0) :
    S f.ty ≠ 0 ∧ nameB f.name = true ∧ e ≤ f.pos ∧ f.pos + S f.ty ≤ W ∧ f.name ∉ pre ∧ flds S W fs (pre ++ [f.name]) (f.pos + S f.ty) ≠ 0 := by
  rw [flds] at h
  split at h
  · exact absurd rfl h
  rename_i hg
  exact ⟨fun x => hg (.inl x), by cases hn : nameB f.name; exact absurd (.inr (.inl hn)) hg; rfl, Int.not_lt.mp fun x => hg (.inr (.inr (.inl x))), Int.not_lt.mp fun x => hg (.inr (.inr (.inr (.inl x)))), fun x => hg (.inr (.inr (.inr (.inr x)))), h⟩
theorem flds_congr {S T : Ty → Int} {W : Int} : ∀ (fs : List Fd) (pre : List ByteArray) (e : Int), (∀ f ∈ fs, S f.ty ≠ 0 → T f.ty = S f.ty) → flds S W fs pre e ≠ 0 → flds T W fs pre e = flds S W fs pre e
  | [], _, _, _, _ => rfl
  | f :: fs, pre, e, hs, h => by
    obtain ⟨h1, h2, h3, h4, h5, h6⟩ := flds_cons h
    have ht := hs f List.mem_cons_self h1
    have ih := flds_congr fs (pre ++ [f.name]) (f.pos + S f.ty) (fun g hg => hs g (List.mem_cons_of_mem _ hg)) h6
    rw [flds, flds, ht, ih]
theorem dims_ok : ∀ (ds : List Int) (n : Int), dims ds n ≠ 0 → dims ds n = n * prod ds ∧ 1 ≤ prod ds ∧ n ≠ 0
  | [], n, h => ⟨by rw [dims, prod]; omega, by rw [prod]; omega, h⟩
  | d :: ds, n, h => by
    rw [dims] at h ⊢
    split at h
    · exact absurd rfl h
    rename_i hg
    rw [if_neg hg]
    obtain ⟨h1, h2, h3⟩ := dims_ok ds _ h
    refine ⟨by rw [h1, prod, Int.mul_assoc], ?_, fun e => h3 (by rw [e, Int.zero_mul])⟩
    rw [prod]
    have : 1 * 1 ≤ d * prod ds := Int.mul_le_mul (by omega) h2 (by omega) (by omega)
    omega
theorem cap_ok {n : Int} (h : cap256 n ≠ 0) : cap256 n = n := by
  unfold cap256 at h ⊢
  split
  · rename_i hg; rw [if_pos hg] at h; exact absurd rfl h
  · rfl
theorem sz_comp {d : Nat} {t : Ty} (hc : t.c = 5) (h : sz (d + 1) t ≠ 0) : sz (d + 1) t = t.w ∧ 1 ≤ t.w ∧ t.w ≤ 256 ∧ t.big = false ∧ t.ds.length + t.bs.length + t.ns.length = 0 ∧ 1 ≤ t.fs.length ∧ t.fs.length ≤ 16 ∧ flds (sz d) t.w t.fs [] 0 = t.w := by
  have e : sz (d + 1) t = cap256 (compS (sz d) t) := by rw [sz, if_pos hc]
  have hc0 := cap_ok (e ▸ h)
  have hn : compS (sz d) t ≠ 0 := fun x => h (by rw [e, hc0, x])
  rw [e, hc0]
  unfold compS at hn ⊢
  split at hn
  · exact absurd rfl hn
  rename_i hg
  rw [if_neg hg]
  have hw : t.w ≠ 0 := fun x => hg (.inr (.inr (.inl (by omega))))
  have hf := flds_ok hw _ _ _ hn
  have hbig : t.big = false := by cases hb : t.big; rfl; exact absurd (.inl hb) hg
  exact ⟨hf, by omega, by omega, hbig, by omega, by omega, by omega, hf⟩
theorem sz_arr {d : Nat} {t : Ty} (hc : t.c = 6) (h : sz (d + 1) t ≠ 0) : ∃ b, t.bs = [b] ∧ sz d b ≠ 0 ∧ sz (d + 1) t = sz d b * prod t.ds ∧ 1 ≤ prod t.ds ∧ t.big = false ∧ t.w = 0 ∧ t.fs.length + t.ns.length = 0 ∧ 1 ≤ t.ds.length ∧ t.ds.length ≤ 4 ∧ dims t.ds (sz d b) ≠ 0 := by
  have e : sz (d + 1) t = cap256 (arrS (sz d) t) := by rw [sz, if_neg (by omega), if_pos hc]
  have hc0 := cap_ok (e ▸ h)
  have hn : arrS (sz d) t ≠ 0 := fun x => h (by rw [e, hc0, x])
  rw [e, hc0]
  unfold arrS at hn ⊢
  split at hn
  · exact absurd rfl hn
  rename_i hg
  rw [if_neg hg]
  obtain ⟨b, hb⟩ : ∃ b, t.bs = [b] := List.length_eq_one_iff.mp (by omega)
  rw [hb] at hn ⊢
  have hd : arrB (sz d) t.ds [b] = dims t.ds (sz d b) := rfl
  rw [hd] at hn ⊢
  obtain ⟨h1, h2, h3⟩ := dims_ok _ _ hn
  have hbig : t.big = false := by cases hb : t.big; rfl; exact absurd (.inl hb) hg
  exact ⟨b, rfl, h3, h1, h2, hbig, by omega, by omega, by omega, by omega, hn⟩
theorem sz_enum {d : Nat} {t : Ty} (hc : t.c = 7) (h : sz (d + 1) t ≠ 0) : ∃ b, t.bs = [b] ∧ (b.c = 1 ∨ b.c = 2) ∧ numB b = true ∧ sz (d + 1) t = b.w ∧ 1 ≤ d ∧ t.big = false ∧ t.w = 0 ∧ t.fs.length + t.ds.length = 0 ∧ 1 ≤ t.ns.length ∧ t.ns.length ≤ 16 ∧ mems b t.ns [] ≠ 0 := by
  have e : sz (d + 1) t = cap256 (enumS d t) := by rw [sz, if_neg (by omega), if_neg (by omega), if_pos hc]
  have hc0 := cap_ok (e ▸ h)
  have hn : enumS d t ≠ 0 := fun x => h (by rw [e, hc0, x])
  rw [e, hc0]
  unfold enumS at hn ⊢
  split at hn
  · exact absurd rfl hn
  rename_i hg
  rw [if_neg hg]
  obtain ⟨b, hb⟩ : ∃ b, t.bs = [b] := List.length_eq_one_iff.mp (by omega)
  rw [hb] at hn ⊢
  have hd : enumB t.ns [b] = if (b.c = 1 ∨ b.c = 2) ∧ numB b = true then mems b t.ns [] else 0 := rfl
  rw [hd] at hn ⊢
  split at hn
  · rename_i hg2
    rw [if_pos hg2]
    have hm : ∀ (ms pre : List (ByteArray × Int)), mems b ms pre ≠ 0 → mems b ms pre = b.w := by
      intro ms
      induction ms with
      | nil => intro pre _; rfl
      | cons m ms ih =>
        intro pre hh
        rw [mems] at hh ⊢
        split at hh
        · exact absurd rfl hh
        rename_i hg3
        rw [if_neg hg3]
        exact ih _ hh
    have hbig : t.big = false := by cases hb : t.big; rfl; exact absurd (.inl hb) hg
    exact ⟨b, rfl, hg2.1, hg2.2, hm _ _ hn, by omega, hbig, by omega, by omega, by omega, by omega, hn⟩
  · exact absurd rfl hn
theorem sz_nums {d : Nat} {t : Ty} (h5 : t.c ≠ 5) (h6 : t.c ≠ 6) (h7 : t.c ≠ 7) (h : sz (d + 1) t ≠ 0) : numB t = true ∧ sz (d + 1) t = if t.c = 4 then 2 * t.w else t.w := by
  rw [sz_num h5 h6 h7] at h ⊢
  unfold numS at h ⊢
  split at h
  · rename_i hn; exact ⟨hn, if_pos hn⟩
  · exact absurd rfl h

/-- A type that may be at one depth has the same size at the next. -/
theorem sz_step (d : Nat) : ∀ t, sz d t ≠ 0 → sz (d + 1) t = sz d t := by
  induction d with
  | zero => intro t h; exact absurd rfl h
  | succ d ih =>
    intro t h
    by_cases h5 : t.c = 5
    · obtain ⟨e, hw, hw2, hbig, hl, hf1, hf2, hfl⟩ := sz_comp h5 h
      have h2 : flds (sz (d + 1)) t.w t.fs [] 0 = flds (sz d) t.w t.fs [] 0 := flds_congr _ _ _ (fun f _ hf => ih f.ty hf) (by omega)
      rw [sz, if_pos h5, e]
      unfold compS
      rw [if_neg, h2, hfl, cap256, if_neg (by omega)]
      rintro (x | x | x | x | x | x)
      · rw [hbig] at x; cases x
      all_goals omega
    by_cases h6 : t.c = 6
    · obtain ⟨b, hb, hb0, e, hp, hbig, hw, hl, hd1, hd2, hdm⟩ := sz_arr h6 h
      rw [sz, if_neg h5, if_pos h6]
      have he : arrS (sz (d + 1)) t = arrS (sz d) t := by
        unfold arrS
        rw [hb]
        show (if _ then 0 else dims t.ds (sz (d + 1) b)) = (if _ then 0 else dims t.ds (sz d b))
        rw [ih b hb0]
      rw [he]
      exact ((by rw [sz, if_neg h5, if_pos h6] : sz (d + 1) t = cap256 (arrS (sz d) t))).symm
    by_cases h7 : t.c = 7
    · obtain ⟨b, hb, hbc, hn, e, hd1, hbig, hw, hl, hn1, hn2, hm⟩ := sz_enum h7 h
      rw [sz, sz, if_neg h5, if_neg h6, if_pos h7, if_neg h5, if_neg h6, if_pos h7]
      congr 1
      unfold enumS
      congr 1
      rw [eq_iff_iff]
      constructor <;> rintro (x | x | x | x | x | x | x) <;> simp [x] <;> omega
    · rw [sz_num h5 h6 h7, sz_num h5 h6 h7]
theorem sz_add {d : Nat} {t : Ty} (h : sz d t ≠ 0) (k : Nat) : sz (d + k) t = sz d t := by
  induction k with
  | zero => rfl
  | succ k ih => rw [← Nat.add_assoc, sz_step _ _ (by rw [ih]; exact h), ih]
theorem sz_deep {d : Nat} (hd : d ≤ 4) {t : Ty} (h : sz d t ≠ 0) : sz 4 t = sz d t := by
  have := sz_add h (4 - d)
  rwa [show d + (4 - d) = 4 by omega] at this

theorem reps_len (n : Nat) (s : Int) (f : Int → List Pl) (L : Nat) (hf : ∀ q, (f q).length ≤ L) : ∀ p, (reps n s f p).length ≤ n * L := by
  induction n with
  | zero => intro p; simp [reps]
  | succ n ih =>
    intro p
    rw [reps, List.length_append]
    have h1 := hf p
    have h2 := ih (p + s)
    rw [Nat.succ_mul]
    omega
theorem num_len {t : Ty} (h5 : t.c ≠ 5) (h6 : t.c ≠ 6) (h7 : t.c ≠ 7) (p : Int) : pls t p = if t.c = 4 then [⟨p, 3, t.w, t.big⟩, ⟨p + t.w, 3, t.w, t.big⟩] else [⟨p, t.c, t.w, t.big⟩] := by
  cases t with
  | mk c w b fs ds bs ns =>
    change c ≠ 5 at h5
    change c ≠ 6 at h6
    change c ≠ 7 at h7
    rw [pls, if_neg h5, if_neg h6, if_neg h7]; rfl
theorem pls_comp {t : Ty} (h5 : t.c = 5) (p : Int) : pls t p = plf t.fs p := by
  cases t with
  | mk c w b fs ds bs ns =>
    change c = 5 at h5
    rw [pls, if_pos h5]; rfl
theorem pls_arr {t : Ty} (h6 : t.c = 6) {b : Ty} (hb : t.bs = [b]) (p : Int) : pls t p = reps (prod t.ds).toNat (sz 4 b) (fun q => pls b q) p := by
  cases t with
  | mk c w bg fs ds bs ns =>
    change c = 6 at h6
    rw [pls, if_neg (by omega), if_pos h6]
    obtain rfl : bs = [b] := hb
    rfl
theorem pls_enum {t : Ty} (h7 : t.c = 7) {b : Ty} (hb : t.bs = [b]) (p : Int) : pls t p = pls b p := by
  cases t with
  | mk c w bg fs ds bs ns =>
    change c = 7 at h7
    rw [pls, if_neg (by omega), if_neg (by omega), if_pos h7]
    obtain rfl : bs = [b] := hb
    rfl
/-- There are not more numbers in a type than bytes. -/
theorem pls_len (d : Nat) : d ≤ 4 → ∀ (t : Ty) (p : Int), sz d t ≠ 0 → ((pls t p).length : Int) ≤ sz d t := by
  induction d with
  | zero => intro _ t p h; exact absurd rfl h
  | succ d ih =>
    intro hd t p h
    have ih := ih (by omega)
    by_cases h5 : t.c = 5
    · obtain ⟨e, hw, hw2, hbig, hl, hf1, hf2, hfl⟩ := sz_comp h5 h
      rw [pls_comp h5, e]
      have hh : ∀ (fs : List Fd) pre (e : Int), flds (sz d) t.w fs pre e ≠ 0 → e ≤ t.w → ((plf fs p).length : Int) ≤ t.w - e := by
        intro fs
        induction fs with
        | nil => intro pre e _ he; rw [plf]; simp; omega
        | cons f fs ihf =>
          intro pre e hne he
          obtain ⟨h1, h2, h3, h4, h5', h6'⟩ := flds_cons hne
          have hp := ihf _ _ h6' h4
          have hq := ih f.ty (p + f.pos) h1
          rw [plf_cons, List.length_append]
          omega
      have := hh t.fs [] 0 (by omega) (by omega)
      omega
    by_cases h6 : t.c = 6
    · obtain ⟨b, hb, hb0, e, hp, hbig, hw, hl, hd1, hd2, hdm⟩ := sz_arr h6 h
      rw [pls_arr h6 hb, e]
      have hg := sz_ge d b
      have h2 := reps_len (prod t.ds).toNat (sz 4 b) (fun q => pls b q) (sz d b).toNat (fun q => by have := ih b q hb0; omega) p
      have h3 : (((prod t.ds).toNat * (sz d b).toNat : Nat) : Int) = prod t.ds * sz d b := by
        rw [Int.natCast_mul, Int.toNat_of_nonneg (by omega), Int.toNat_of_nonneg hg]
      rw [Int.mul_comm]
      omega
    by_cases h7 : t.c = 7
    · obtain ⟨b, hb, hbc, hn, e, hd1, hbig, hw, hl, hn1, hn2, hm⟩ := sz_enum h7 h
      rw [pls_enum h7 hb, num_len (by omega) (by omega) (by omega), if_neg (by omega), e]
      have := (numB_iff b).mp hn
      simp
      omega
    · obtain ⟨hn, e⟩ := sz_nums h5 h6 h7 h
      have := (numB_iff t).mp hn
      rw [num_len h5 h6 h7, e]
      split <;> simp <;> omega

/-- The state in the midst of a call. -/
structure Rs (gw go base : Nat) (V : Value) (w : World) (V' : Value) (xs : List Pl) (wr : World) : Prop where
  st : PSt gw go base V' xs wr
  gr : Gr go V.ownBlock w wr
  ow : V'.ownBlock = V.ownBlock ∨ ∃ k, V'.ownBlock = some k ∧ w.heap.size ≤ k
theorem Rs.step {gw go base : Nat} {V V' V2 : Value} {w wr w2 : World} {xs ys : List Pl} (h : Rs gw go base V w V' xs wr) (hs : PSt gw go base V2 ys w2) (hg : Gr go V'.ownBlock wr w2)
    (ho : V2.ownBlock = V'.ownBlock ∨ ∃ k, V2.ownBlock = some k ∧ wr.heap.size ≤ k) : Rs gw go base V w V2 ys w2 := by
  refine ⟨hs, h.gr.trans h.ow hg, ?_⟩
  rcases ho with ho | ⟨k, ho, hk⟩
  · rw [ho]; exact h.ow
  · exact .inr ⟨k, ho, Nat.le_trans h.gr.size hk⟩
theorem Rs.below {gw go base : Nat} {V V' : Value} {w wr w2 : World} {xs : List Pl} (h : Rs gw go base V w V' xs wr) (hb : Below wr.heap.size wr w2) : Rs gw go base V w V' xs w2 :=
  h.step (h.st.below hb) (.of_below hb) (.inl rfl)
theorem Rs.start {gw go base : Nat} {V : Value} {w w2 : World} {xs : List Pl} (h : PSt gw go base V xs w) (hb : Below w.heap.size w w2) : Rs gw go base V w V xs w2 :=
  ⟨h.below hb, .of_below hb, .inl rfl⟩
/-- What lies below B is as it was. -/
theorem Rs.keep {gw go base B : Nat} {V V' : Value} {w wr : World} {xs zs : List Pl} (h : Rs gw go base V w V' xs wr) (h0 : PSt gw go base V zs w) (hB : B ≤ go) (hB2 : B ≤ base) (hb : base ≤ w.heap.size) : Below B w wr :=
  h.gr.below (by omega) hB (fun k hk => by have := (h0.own.lt k hk).1; omega)
/-- A block that came in the midst of the call and is not the slice's. -/
theorem Rs.box {gw go base : Nat} {V V' V2 : Value} {w wr w2 : World} {xs ys : List Pl} (h : Rs gw go base V w V' xs wr) {g : Nat} {t : TypeId} {cs : Array Value} (hbx : Bx wr g t cs) (hg : Gr go V'.ownBlock wr w2) (hne : some g ≠ V'.ownBlock) (hgo : g ≠ go) : Bx w2 g t cs :=
  hg.bx hbx hgo hne

def PlOk (d : Nat) : Prop := ∀ (gw go base B : Nat) (t : Ty) (v : Value) (p : Int) (V : Value) (xs : List Pl) (w : World), sz d t ≠ 0 → gw ≠ go → gw < base → go < base → B ≤ go → base ≤ w.heap.size →
  TyAt w B t v → PSt gw go base V xs w → 0 ≤ p → p + sz d t ≤ 1000 → xs.length + sz d t ≤ 1000 →
  Calls Try.prog 35 #[v, .int .i64 p, .pointer (some ⟨gw, 0, none⟩), .pointer (some ⟨go, 0, none⟩)] w (PPost gw go base V (xs ++ pls t p) w)

/-- What holds of the fields that are left. -/
structure CompLeft (d : Nat) (W p : Int) (all : List Pl) (fs : List Fd) (xs : List Pl) : Prop where
  ex : ∃ pre e, flds (sz d) W fs pre e = W ∧ 0 ≤ e ∧ e ≤ W ∧ xs.length + (W - e) ≤ 1000
  all : xs ++ plf fs p = all
theorem CompLeft.step {d : Nat} (hd : d ≤ 4) {W p : Int} (hW : 1 ≤ W) {all : List Pl} {f : Fd} {fs : List Fd} {xs : List Pl} (h : CompLeft d W p all (f :: fs) xs) :
    sz d f.ty ≠ 0 ∧ 0 ≤ f.pos ∧ f.pos + sz d f.ty ≤ W ∧ xs.length + sz d f.ty ≤ 1000 ∧ CompLeft d W p all fs (xs ++ pls f.ty (p + f.pos)) := by
  obtain ⟨pre, e, hf, he0, he1, hl⟩ := h.ex
  obtain ⟨h1, h2, h3, h4, h5, h6⟩ := flds_cons (show flds (sz d) W (f :: fs) pre e ≠ 0 by omega)
  have hn := pls_len d hd f.ty (p + f.pos) h1
  have hg := sz_ge d f.ty
  refine ⟨h1, by omega, h4, by omega, ⟨pre ++ [f.name], f.pos + sz d f.ty, flds_ok (by omega) _ _ _ h6, by omega, h4, ?_⟩, ?_⟩
  · rw [List.length_append]; omega
  · rw [List.append_assoc, ← plf_cons]; exact h.all

set_option maxHeartbeats 2000000 in
set_option maxRecDepth 100000 in
theorem pl_comp (d : Nat) (hd : d ≤ 3) (ih : PlOk d) (gw go base B : Nat) (t : Ty) (v : Value) (p : Int) (V : Value) (xs : List Pl) (w : World) (hc : t.c = 5) (hz : sz (d + 1) t ≠ 0) (hgg : gw ≠ go) (hgw : gw < base) (hgo : go < base) (hB : B ≤ go) (hb : base ≤ w.heap.size)
    (ht : TyAt w B t v) (hs : PSt gw go base V xs w) (hp0 : 0 ≤ p) (hp1 : p + sz (d + 1) t ≤ 1000) (hx : xs.length + sz (d + 1) t ≤ 1000) :
    Calls Try.prog 35 #[v, .int .i64 p, .pointer (some ⟨gw, 0, none⟩), .pointer (some ⟨go, 0, none⟩)] w (PPost gw go base V (xs ++ pls t p) w) := by
  obtain ⟨e, hw1, hw2, hbig, hll, hf1, hf2, hfl⟩ := sz_comp hc hz
  rw [e] at hp1 hx
  rw [pls_comp hc]
  clear e hz
  revert hc hw1 hw2 hbig hll hf1 hf2 hfl hp1 hx
  cases ht with
  | mk c wd bb fs ds bs ns fA dA bA nA fC dC bC nC fb fo db dO bbb bo nb nO fv bv hf hd' hb' hn hfz hnz hnr hcap hfA hdA hbA hnA hf0 hf1' hf2' hft hd0 hb0 hbt hn0' hn1' =>
  intro hc hp1 hx hw1 hw2 hbig hll hf1 hf2 hfl
  obtain rfl : c = 5 := hc
  obtain rfl : bb = false := hbig
  simp only [Ty.w, Ty.fs, Ty.ds, Ty.bs, Ty.ns] at *
  clear hnz hnr hdA hbA hnA hd0 hb0 hbt hn0' hn1'
  have HF0 := Lib.hid hf0
  have HF1 := Lib.hid hf1'
  have HF2 := Lib.hid hf2'
  have HFT := Lib.hid hft
  have IH := Lib.hid ih
  clear hf0 hf1' hf2' hft ih
  obtain ⟨rfl, hnf⟩ := hfA (by omega)
  have hlt := hs.out.lt
  have hlt2 := hs.walk.lt
  have HBN := Lib.hid (below_new w (.cells #[.int .i64 5, .int .i64 wd, .bool false, .slice (some ⟨fb, fo, none⟩) fs.length fC, .slice dA ds.length dC, .slice bA bs.length bC, .slice nA ns.length nC] 28))
  have HBX := Lib.hid (Bx.new w 28 #[.int .i64 5, .int .i64 wd, .bool false, .slice (some ⟨fb, fo, none⟩) fs.length fC, .slice dA ds.length dC, .slice bA bs.length bC, .slice nA ns.length nC])
  have HS := Lib.hid hs
  have HR0 := Lib.hid (Rs.start hs HBN.out)
  have HC0 := Lib.hid (show CompLeft d wd p (xs ++ plf fs p) fs xs from ⟨⟨[], 0, hfl, Int.le_refl _, by omega, by omega⟩, rfl⟩)
  have HOW := Lib.hid hs.own.lt
  clear hs hfl
  go_enter Try.func35, Try.ntmps35
  go_wp2
  go_loopw [28] (fun i wr => ∃ (k : Nat) (V' : Value) (ys : List Pl), k ≤ fs.length ∧ i = .int .i64 k ∧ CompLeft d wd p (xs ++ plf fs p) (fs.drop k) ys ∧ Rs gw go base V w V' ys wr) (fun i _ => fs.length - (intOf i).toNat)
  case atStart => exact ⟨0, V, xs, Nat.zero_le _, rfl, HC0.out, HR0.out⟩
  case round =>
    clear HBN HBX HR0 HC0
    obtain ⟨k, V', ys, hk, rfl, hcl, hr⟩ := hrel
    have HCL := Lib.hid hcl
    have HR := Lib.hid hr
    clear hcl hr
    by_cases hlt3 : k < fs.length
    · have HW := Lib.hid (HR.out.keep HS.out hB (by omega) hb)
      have hc := fun o : Nat => HW.out.cell (p := ⟨fb, o, none⟩) hnf
      have g0 := (hc (fo + k * 9)).trans (HF0.out k hlt3)
      have g1 := (hc (fo + k * 9 + 1)).trans (HF1.out k hlt3)
      have a0 : wr.cell? ⟨fb, fo + k * 9 + 2, none⟩ = some (fv k 0) := (hc _).trans (HF2.out k hlt3 0 (by omega))
      have a1 := (hc (fo + k * 9 + 2 + 1)).trans (HF2.out k hlt3 1 (by omega))
      have a2 := (hc (fo + k * 9 + 2 + 2)).trans (HF2.out k hlt3 2 (by omega))
      have a3 := (hc (fo + k * 9 + 2 + 3)).trans (HF2.out k hlt3 3 (by omega))
      have a4 := (hc (fo + k * 9 + 2 + 4)).trans (HF2.out k hlt3 4 (by omega))
      have a5 := (hc (fo + k * 9 + 2 + 5)).trans (HF2.out k hlt3 5 (by omega))
      have a6 := (hc (fo + k * 9 + 2 + 6)).trans (HF2.out k hlt3 6 (by omega))
      clear hc
      have hbt := HFT.out k hlt3
      obtain ⟨fA', dA', bA', nA', fC', dC', bC', nC', e0, e1, e2, e3, e4, e5, e6⟩ := hbt.cells
      have hln := hbt.lens
      rw [e0] at a0 hbt
      rw [e1] at a1 hbt
      rw [e2] at a2 hbt
      rw [e3] at a3 hbt
      rw [e4] at a4 hbt
      rw [e5] at a5 hbt
      rw [e6] at a6 hbt
      have HBT1 := Lib.hid (hbt.later HW.out)
      clear e0 e1 e2 e3 e4 e5 e6 hbt
      have hcl := HCL.out
      rw [List.drop_eq_getElem_cons hlt3] at hcl
      obtain ⟨k1, k2, k3, k4, k5⟩ := hcl.step (by omega) hw1
      have hsg := sz_ge d fs[k].ty
      have K5 := Lib.hid k5
      have K1 := Lib.hid k1
      have hr := HR.out
      have o0 := hr.st.walk.cell 0
      have hs1 := hr.gr.size
      have o1 := hr.st.walk.lt
      have HWm := Lib.hid (below_new wr (.cells (#[.string fs[k].name, .int .i64 fs[k].pos, .int .i64 fs[k].ty.c, .int .i64 fs[k].ty.w, .bool fs[k].ty.big, .slice fA' fs[k].ty.fs.length fC', .slice dA' fs[k].ty.ds.length dC', .slice bA' fs[k].ty.bs.length bC', .slice nA' fs[k].ty.ns.length nC']) 66))
      clear hcl k5 k1 hr HCL
      go_wp2_with (go_at_call 35; refine (IH.out gw go base B fs[k].ty _ (p + fs[k].pos) V' ys _ K1.out hgg hgw hgo hB ?_ ?_ ?_ ?_ ?_ ?_).mono ?_)
      · simp; omega
      · exact HBT1.out.keep fun q hq => HWm.out.cell (p := q) (by omega)
      · exact HR.out.st.below HWm.out
      · omega
      · omega
      · omega
      rintro _ w2 ⟨rfl, V2, hs2, hg2, ho2⟩
      have HR2 := Lib.hid ((HR.out.below HWm.out).step hs2 hg2 ho2)
      clear hs2 hg2 ho2 HBT1 HWm HR HW a0 a1 a2 a3 a4 a5 a6 g0 g1 o0
      go_wp2
      go_roundw
      case rel => exact ⟨k + 1, V2, _, by omega, by go_num, K5.out, HR2.out⟩
      case measure => simp [intOf]; omega
    · obtain rfl : k = fs.length := by omega
      have hcl := HCL.out
      rw [List.drop_length] at hcl
      have ha := hcl.all
      rw [plf, List.append_nil] at ha
      have HA := Lib.hid ha
      clear hcl ha
      go_wp2
      go_end0
      have hr := HR.out
      rw [← HA.out]
      exact ⟨rfl, V', hr.st, hr.gr, hr.ow⟩

/-- What holds of the elements that are left. -/
structure ArrLeft (s q r : Int) (all : List Pl) (f : Int → List Pl) (m : Nat) (ys : List Pl) : Prop where
  rest : r = s * m
  q0 : 0 ≤ q
  q1 : q + r ≤ 1000
  len : ys.length + r ≤ 1000
  all : ys ++ reps m s f q = all
theorem ArrLeft.step {s q r : Int} {all : List Pl} {f : Int → List Pl} {m : Nat} {ys : List Pl} (hs : 1 ≤ s) (hf : ((f q).length : Int) ≤ s) (h : ArrLeft s q r all f (m + 1) ys) :
    s ≤ r ∧ ArrLeft s (q + s) (r - s) all f m (ys ++ f q) := by
  have h1 := h.rest
  rw [Int.natCast_add, Int.mul_add] at h1
  have h2 : 0 ≤ s * (m : Int) := Int.mul_nonneg (by omega) (by omega)
  have h3 := h.q0
  have h4 := h.q1
  have h5 := h.len
  refine ⟨by omega, by omega, by omega, by omega, by rw [List.length_append]; omega, ?_⟩
  rw [List.append_assoc]
  exact h.all
theorem ArrLeft.bound {s q r : Int} {all : List Pl} {f : Int → List Pl} {m : Nat} {ys : List Pl} (hs : 1 ≤ s) (h : ArrLeft s q r all f m ys) : 0 ≤ r ∧ (m = 0 ↔ r = 0) := by
  have h1 := h.rest
  have h2 : 0 ≤ s * (m : Int) := Int.mul_nonneg (by omega) (by omega)
  refine ⟨by omega, fun e => by rw [h1, e]; simp, fun e => ?_⟩
  rcases Nat.eq_zero_or_pos m with h0 | h0
  · exact h0
  · have : s * 1 ≤ s * (m : Int) := Int.mul_le_mul_of_nonneg_left (by omega) (by omega)
    omega


set_option maxHeartbeats 2000000 in
set_option maxRecDepth 100000 in
theorem pl_arr (d : Nat) (hd : d ≤ 3) (ih : PlOk d) (gw go base B : Nat) (t : Ty) (v : Value) (p : Int) (V : Value) (xs : List Pl) (w : World) (hc : t.c = 6) (hz : sz (d + 1) t ≠ 0) (hgg : gw ≠ go) (hgw : gw < base) (hgo : go < base) (hB : B ≤ go) (hb : base ≤ w.heap.size)
    (ht : TyAt w B t v) (hs : PSt gw go base V xs w) (hp0 : 0 ≤ p) (hp1 : p + sz (d + 1) t ≤ 1000) (hx : xs.length + sz (d + 1) t ≤ 1000) :
    Calls Try.prog 35 #[v, .int .i64 p, .pointer (some ⟨gw, 0, none⟩), .pointer (some ⟨go, 0, none⟩)] w (PPost gw go base V (xs ++ pls t p) w) := by
  have HT := Lib.hid ht
  have hz4 := sz_deep (by omega) hz
  obtain ⟨b, hbs, hb0, e, hpr, hbig, hw0, hfn, hd1, hd2, hdm⟩ := sz_arr hc hz
  have hb4 := sz_deep (by omega) hb0
  have hgb := sz_ge d b
  have hlb := sz_le d b
  have hlt4 := sz_le (d + 1) t
  rw [pls_arr hc hbs, hb4]
  have HB4 := Lib.hid hb4
  have HZ4 := Lib.hid hz4
  have hplen : ∀ q, ((pls b q).length : Int) ≤ sz d b := fun q => pls_len d (by omega) b q hb0
  have HPL := Lib.hid hplen
  have hal : ArrLeft (sz d b) p (sz (d + 1) t) (xs ++ reps (prod t.ds).toNat (sz d b) (fun q => pls b q) p) (fun q => pls b q) (prod t.ds).toNat xs :=
    ⟨by rw [e, Int.toNat_of_nonneg (by omega)], hp0, hp1, hx, rfl⟩
  generalize (xs ++ reps (prod t.ds).toNat (sz d b) (fun q => pls b q) p) = all at *
  generalize hsd : sz d b = s at *
  generalize hrt : sz (d + 1) t = r at *
  have HAL := Lib.hid hal
  have HSD := Lib.hid hsd
  have HRT := Lib.hid hrt
  clear hz4 hb4 e hdm hplen hal hsd hrt
  revert hc; revert hbs; revert hbig; revert hw0; revert hfn; revert hd1; revert hd2; revert HT; revert HAL; revert HZ4; revert HRT; revert hpr
  cases ht with
  | mk c wd bb fs ds bs ns fA dA bA nA fC dC bC nC fb fo db dO bbb bo nb nO fv bv hf hd' hb' hn hfz hnz hnr hcap hfA hdA hbA hnA hf0 hf1' hf2' hft hd0 hb0' hbt hn0' hn1' =>
  intro hpr HRT HZ4 HAL HT hd2 hd1 hfn hw0 hbig hbs hc
  obtain rfl : c = 6 := hc
  obtain rfl : bb = false := hbig
  obtain rfl : bs = [b] := hbs
  obtain rfl : wd = 0 := hw0
  simp only [Ty.w, Ty.fs, Ty.ds, Ty.bs, Ty.ns] at *
  clear hfz hnz hnr hfA hdA hnA hf0 hf1' hf2' hft hd0 hn0' hn1' hpr
  have HB0 := Lib.hid hb0'
  have HBT := Lib.hid hbt
  have IH := Lib.hid ih
  clear hb0' hbt ih
  obtain ⟨rfl, hnb⟩ := hbA (by simp)
  have hlt := hs.out.lt
  have hlt2 := hs.walk.lt
  have hs1 : 1 ≤ s := by omega
  have HBN := Lib.hid (below_new w (.cells #[.int .i64 6, .int .i64 0, .bool false, .slice fA fs.length fC, .slice dA ds.length dC, .slice (some ⟨bbb, bo, none⟩) 1 bC, .slice nA ns.length nC] 28))
  have HBX := Lib.hid (Bx.new w 28 #[.int .i64 6, .int .i64 0, .bool false, .slice fA fs.length fC, .slice dA ds.length dC, .slice (some ⟨bbb, bo, none⟩) 1 bC, .slice nA ns.length nC])
  have HS := Lib.hid hs
  have HS1 := Lib.hid (hs.below HBN.out)
  have hBw : B ≤ w.heap.size := by omega
  have HT1 := Lib.hid ((HT.out.later (HBN.out.mono hBw)).up (Nat.le_trans hBw HBN.out.size))
  have HOW := Lib.hid hs.own.lt
  clear hs
  go_enter Try.func35, Try.ntmps35
  go_wp2_with (go_at_call 33; refine (psize_any 4 (by omega) (.mk 6 0 false fs ds [b] ns) _ _ ?_).mono ?_)
  · simpa using HT1.out
  rintro _ w2 he hb2
  have hb2 := below_succ hb2
  rw [HZ4.out] at he
  subst he
  have hc := fun o : Nat => (HBN.out.trans (hb2.mono (by simp))).cell (p := ⟨bbb, o, none⟩) (by show bbb < w.heap.size; omega)
  have a0 := (hc bo).trans (HB0.out 0 (by simp) 0 (by omega))
  have a1 := (hc (bo + 1)).trans (HB0.out 0 (by simp) 1 (by omega))
  have a2 := (hc (bo + 2)).trans (HB0.out 0 (by simp) 2 (by omega))
  have a3 := (hc (bo + 3)).trans (HB0.out 0 (by simp) 3 (by omega))
  have a4 := (hc (bo + 4)).trans (HB0.out 0 (by simp) 4 (by omega))
  have a5 := (hc (bo + 5)).trans (HB0.out 0 (by simp) 5 (by omega))
  have a6 := (hc (bo + 6)).trans (HB0.out 0 (by simp) 6 (by omega))
  clear hc
  have HW2 := Lib.hid (show Below w.heap.size w w2 from HBN.out.trans (hb2.mono (by simp)))
  have HR2 := Lib.hid (Rs.start HS1.out hb2)
  have HBX2 := Lib.hid (HBX.out.later hb2 (by simp))
  have c5 := HBX2.out.cell 5
  have hsz2 := hb2.size
  simp at hsz2
  clear hb2
  go_wp2_with (go_at_call 33; refine (psize_any 4 (by omega) b _ _ ?_).mono ?_)
  · exact ((HBT.out 0 (by simp)).keep fun q hq => HW2.out.cell (p := q) (by omega)).up (by omega)
  rintro _ w3 ⟨he, hb3⟩
  rw [HB4.out] at he
  subst he
  have HR3 := Lib.hid (HR2.out.below hb3)
  clear hb3 HR2 HBX2 HW2 a0 a1 a2 a3 a4 a5 a6 c5 hsz2
  go_wp2
  go_loopw [1, 8] (fun x i wr => ∃ (q r : Int) (m : Nat) (V' : Value) (ys : List Pl), x = .int .i64 q ∧ i = .int .i64 r ∧ ArrLeft s q r all (fun q => pls b q) m ys ∧
      Rs gw go base V (w.alloc (.cells #[.int .i64 6, .int .i64 0, .bool false, .slice fA fs.length fC, .slice dA ds.length dC, .slice (some ⟨bbb, bo, none⟩) 1 bC, .slice nA ns.length nC] 28)) V' ys wr) (fun _ i _ => (intOf i).toNat)
  case atStart => exact ⟨p, r, _, V, xs, rfl, rfl, HAL.out, HR3.out⟩
  case round =>
    clear HR3 HAL
    obtain ⟨q, r', m, V', ys, rfl, rfl, hal, hr⟩ := hrel
    obtain ⟨hr0, hm0⟩ := hal.bound hs1
    have hq0 := hal.q0
    have hq1 := hal.q1
    have hl1 := hal.len
    have HAL := Lib.hid hal
    have HR := Lib.hid hr
    clear hal hr
    by_cases hpos : 0 < r'
    · obtain ⟨m, rfl⟩ : ∃ m', m = m' + 1 := ⟨m - 1, by omega⟩
      obtain ⟨k1, k2⟩ := HAL.out.step hs1 (HPL.out q)
      have K2 := Lib.hid k2
      clear k2 HAL
      have HW := Lib.hid (show Below B w wr from ((Gr.of_below (r := V.ownBlock) HBN.out).trans (.inl rfl) HR.out.gr).below (by omega) hB (fun k hk => by have := (HOW.out k hk).1; omega))
      have hc := fun o : Nat => HW.out.cell (p := ⟨bbb, o, none⟩) hnb
      have a0 := (hc bo).trans (HB0.out 0 (by simp) 0 (by omega))
      have a1 := (hc (bo + 1)).trans (HB0.out 0 (by simp) 1 (by omega))
      have a2 := (hc (bo + 2)).trans (HB0.out 0 (by simp) 2 (by omega))
      have a3 := (hc (bo + 3)).trans (HB0.out 0 (by simp) 3 (by omega))
      have a4 := (hc (bo + 4)).trans (HB0.out 0 (by simp) 4 (by omega))
      have a5 := (hc (bo + 5)).trans (HB0.out 0 (by simp) 5 (by omega))
      have a6 := (hc (bo + 6)).trans (HB0.out 0 (by simp) 6 (by omega))
      clear hc
      have hbx := HR.out.gr.bx HBX.out (by omega) (fun e => by have := (HOW.out _ e.symm).2; omega)
      have c5 := hbx.cell 5
      have o0 := HR.out.st.walk.cell 0
      have hsz := HR.out.gr.size
      have hsd' : sz d b ≠ 0 := by have := HSD.out; omega
      have HSD2 := Lib.hid hsd'
      simp at hsz
      clear hbx hsd'
      go_wp2
      go_still_tail 6, (by kernel_rfl)
      go_wp2_with (go_at_call 35; refine (IH.out gw go base B b _ q V' ys _ HSD2.out hgg hgw hgo hB ?_ ?_ ?_ ?_ ?_ ?_).mono ?_)
      · show base ≤ wr.heap.size; omega
      · exact ((HBT.out 0 (by simp)).keep fun q hq => HW.out.cell (p := q) hq).drew
      · exact HR.out.st.below (Below.refl _ _).drew
      · omega
      · rw [HSD.out]; omega
      · rw [HSD.out]; omega
      rintro _ w4 ⟨rfl, V2, hs2, hg2, ho2⟩
      have HR2 := Lib.hid ((HR.out.below (Below.refl _ _).drew).step hs2 hg2 ho2)
      clear hs2 hg2 ho2 HR HW a0 a1 a2 a3 a4 a5 a6 c5 o0
      go_wp2
      go_roundw
      case rel => exact ⟨q + s, r' - s, m, V2, _, rfl, rfl, K2.out, HR2.out⟩
      case measure => simp [intOf]; omega
    · obtain rfl : r' = 0 := by omega
      obtain rfl : m = 0 := hm0.mpr rfl
      have ha := HAL.out.all
      rw [reps, List.append_nil] at ha
      have HA := Lib.hid ha
      clear ha
      go_wp2
      go_end0
      have hr := HR.out
      rw [← HA.out]
      refine ⟨rfl, V', hr.st, (Gr.of_below HBN.out).trans (.inl rfl) hr.gr, ?_⟩
      rcases hr.ow with h | ⟨k, h, hk⟩
      · exact .inl h
      · exact .inr ⟨k, h, by simp at hk; omega⟩

set_option maxHeartbeats 2000000 in
set_option maxRecDepth 100000 in
theorem pl_enum (d : Nat) (gw go base B : Nat) (t : Ty) (v : Value) (p : Int) (V : Value) (xs : List Pl) (w : World) (hc : t.c = 7) (hz : sz (d + 1) t ≠ 0) (hgg : gw ≠ go) (hgw : gw < base) (hgo : go < base) (hB : B ≤ go) (hb : base ≤ w.heap.size)
    (ht : TyAt w B t v) (hs : PSt gw go base V xs w) (hx : xs.length ≤ 1000) :
    Calls Try.prog 35 #[v, .int .i64 p, .pointer (some ⟨gw, 0, none⟩), .pointer (some ⟨go, 0, none⟩)] w (PPost gw go base V (xs ++ pls t p) w) := by
  obtain ⟨b, hbs, hbc, hn, e, hd1, hbig, hw0, hfn, hn1, hn2, hm⟩ := sz_enum hc hz
  have hpl : pls t p = [⟨p, b.c, b.w, b.big⟩] := by rw [pls_enum hc hbs, num_len (by omega) (by omega) (by omega), if_neg (by omega)]
  rw [hpl]
  clear hpl hz e hm hn
  revert hc; revert hbs; revert hbig; revert hw0; revert hfn; revert hn1; revert hn2
  cases ht with
  | mk c wd bb fs ds bs ns fA dA bA nA fC dC bC nC fb fo db dO bbb bo nb nO fv bv hf hd' hb' hn hfz hnz hnr hcap hfA hdA hbA hnA hf0 hf1' hf2' hft hd0 hb0' hbt hn0' hn1' =>
  intro hn2 hn1 hfn hw0 hbig hbs hc
  obtain rfl : c = 7 := hc
  obtain rfl : bb = false := hbig
  obtain rfl : bs = [b] := hbs
  obtain rfl : wd = 0 := hw0
  change fs.length + ds.length = 0 at hfn
  clear hfz hnz hnr hfA hdA hnA hf0 hf1' hf2' hft hd0 hn0' hn1'
  have HB0 := Lib.hid hb0'
  have HBT := Lib.hid hbt
  clear hb0' hbt
  obtain ⟨rfl, hnb⟩ := hbA (by simp)
  have hlt := hs.out.lt
  have hlt2 := hs.walk.lt
  have hBw : B ≤ w.heap.size := by omega
  have HBN := Lib.hid (below_new w (.cells #[.int .i64 7, .int .i64 0, .bool false, .slice fA fs.length fC, .slice dA ds.length dC, .slice (some ⟨bbb, bo, none⟩) 1 bC, .slice nA ns.length nC] 28))
  have hc := fun o : Nat => HBN.out.cell (p := ⟨bbb, o, none⟩) (by show bbb < w.heap.size; omega)
  have a0 := (hc bo).trans (HB0.out 0 (by simp) 0 (by omega))
  have a1 := (hc (bo + 1)).trans (HB0.out 0 (by simp) 1 (by omega))
  have a2 := (hc (bo + 2)).trans (HB0.out 0 (by simp) 2 (by omega))
  have a3 := (hc (bo + 3)).trans (HB0.out 0 (by simp) 3 (by omega))
  have a4 := (hc (bo + 4)).trans (HB0.out 0 (by simp) 4 (by omega))
  have a5 := (hc (bo + 5)).trans (HB0.out 0 (by simp) 5 (by omega))
  have a6 := (hc (bo + 6)).trans (HB0.out 0 (by simp) 6 (by omega))
  clear hc
  have hbt := HBT.out 0 (by simp)
  rw [show [b][0] = b from rfl] at hbt
  obtain ⟨fA', dA', bA', nA', fC', dC', bC', nC', e0, e1, e2, e3, e4, e5, e6⟩ := hbt.cells
  rw [e0] at a0
  rw [e1] at a1
  rw [e2] at a2
  rw [e3] at a3
  rw [e4] at a4
  rw [e5] at a5
  rw [e6] at a6
  clear e0 e1 e2 e3 e4 e5 e6 hbt HBT HB0
  have HS := Lib.hid hs
  have HS1 := Lib.hid (hs.below (HBN.out.drew))
  have o0 := (HBN.out.cell (p := ⟨gw, 0, none⟩) hlt2).trans (hs.walk.cell 0)
  have c5 := (Bx.new w 28 #[.int .i64 7, .int .i64 0, .bool false, .slice fA fs.length fC, .slice dA ds.length dC, .slice (some ⟨bbb, bo, none⟩) 1 bC, .slice nA ns.length nC]).cell 5
  have hc1 : b.c ≠ 4 ∧ b.c ≠ 5 ∧ b.c ≠ 6 ∧ b.c ≠ 7 := by omega
  have HC1 := Lib.hid hc1
  clear hs hc1 hbc
  go_enter Try.func35, Try.ntmps35
  go_wp2
  have hwa := size_alloc w (.cells #[.int .i64 7, .int .i64 0, .bool false, .slice fA fs.length fC, .slice dA ds.length dC, .slice (some ⟨bbb, bo, none⟩) 1 bC, .slice nA ns.length nC] 28)
  have HWA := Lib.hid hwa
  clear hwa
  generalize w.alloc (.cells #[.int .i64 7, .int .i64 0, .bool false, .slice fA fs.length fC, .slice dA ds.length dC, .slice (some ⟨bbb, bo, none⟩) 1 bC, .slice nA ns.length nC] 28) = wa at *
  go_still_tail 6, (by kernel_rfl)
  go_wp2_with (go_at_call 35; refine (pl_num gw go base hgg hgw hgo b.c b.w b.big _ _ _ _ p V xs _ HC1.out (by omega) ?_ ?_ ⟨_, _, _, rfl⟩ ⟨_, _, _, rfl⟩ ⟨_, _, _, rfl⟩ ⟨_, _, _, rfl⟩).mono ?_)
  · have := HWA.out; show base ≤ wa.heap.size; omega
  · exact HS1.out
  rintro _ w2 ⟨rfl, V2, hs2, hg2, ho2⟩
  have HR2 := Lib.hid ((Rs.start HS.out HBN.out.drew).step hs2 hg2 ho2)
  clear hs2 hg2 ho2 a0 a1 a2 a3 a4 a5 a6 o0
  go_wp2
  go_end0
  exact ⟨rfl, V2, HR2.out.st, HR2.out.gr, HR2.out.ow⟩

theorem pl_any (d : Nat) : d ≤ 4 → PlOk d := by
  induction d with
  | zero => intro _ gw go base B t v p V xs w hz; exact absurd rfl hz
  | succ d ih =>
    intro hd gw go base B t v p V xs w hz hgg hgw hgo hB hb ht hs hp0 hp1 hx
    have ih := ih (by omega)
    by_cases h5 : t.c = 5
    · exact pl_comp d (by omega) ih gw go base B t v p V xs w h5 hz hgg hgw hgo hB hb ht hs hp0 hp1 hx
    by_cases h6 : t.c = 6
    · exact pl_arr d (by omega) ih gw go base B t v p V xs w h6 hz hgg hgw hgo hB hb ht hs hp0 hp1 hx
    have hg := sz_ge (d + 1) t
    by_cases h7 : t.c = 7
    · exact pl_enum d gw go base B t v p V xs w h7 hz hgg hgw hgo hB hb ht hs (by omega)
    obtain ⟨hn, e⟩ := sz_nums h5 h6 h7 hz
    have hi := (numB_iff t).mp hn
    obtain ⟨fA, dA, bA, nA, fC, dC, bC, nC, rfl⟩ := ht.shape
    rw [num_len h5 h6 h7]
    by_cases h4 : t.c = 4
    · rw [if_pos h4, h4]
      exact pl_cplx gw go base hgg hgw hgo t.w t.big _ _ _ _ p V xs w (by omega) (by omega) (by omega) (by omega) (by omega) hb hs ⟨_, _, _, rfl⟩ ⟨_, _, _, rfl⟩ ⟨_, _, _, rfl⟩ ⟨_, _, _, rfl⟩
    · rw [if_neg h4]
      exact pl_num gw go base hgg hgw hgo t.c t.w t.big _ _ _ _ p V xs w ⟨h4, h5, h6, h7⟩ (by omega) hb hs ⟨_, _, _, rfl⟩ ⟨_, _, _, rfl⟩ ⟨_, _, _, rfl⟩ ⟨_, _, _, rfl⟩

set_option maxHeartbeats 2000000 in
set_option maxRecDepth 100000 in
theorem places_no (t : Ty) (v : Value) (w : World) (ht : TyAt w w.heap.size t v) (hz : sz 4 t = 0) :
    Calls Try.prog 19 #[v] w fun e w' => e = .returned (.tuple #[.slice none 0 0, .int .i64 15]) ∧ Below w.heap.size w w' := by
  obtain ⟨fA, dA, bA, nA, fC, dC, bC, nC, rfl⟩ := ht.shape
  have HT := Lib.hid ((ht.later (below_new w (.cells #[.int .i64 t.c, .int .i64 t.w, .bool t.big, .slice fA t.fs.length fC, .slice dA t.ds.length dC, .slice bA t.bs.length bC, .slice nA t.ns.length nC] 28))).up (below_new w (.cells #[.int .i64 t.c, .int .i64 t.w, .bool t.big, .slice fA t.fs.length fC, .slice dA t.ds.length dC, .slice bA t.bs.length bC, .slice nA t.ns.length nC] 28)).size)
  have HE := Lib.hid (show errV t = 15 from if_pos hz)
  clear ht hz
  go_enter Try.func19, Try.ntmps19
  go_wp2_with (go_at_call 17; refine (check_any t _ _ ?_).mono ?_)
  · exact HT.out
  rintro _ w2 ⟨he, hb2⟩
  rw [HE.out] at he
  subst he
  have HW := Lib.hid (below_more (below_new _ _) hb2)
  clear hb2
  go_wp2
  go_ret2
  exact ⟨rfl, HW.out⟩

set_option maxHeartbeats 2000000 in
set_option maxRecDepth 100000 in
theorem places_yes (t : Ty) (v : Value) (w : World) (ht : TyAt w w.heap.size t v) (hz : sz 4 t ≠ 0) :
    Calls Try.prog 19 #[v] w fun e w' => ∃ V, e = .returned (.tuple #[V, .int .i64 0]) ∧ w'.ownsRow w.heap.size 46 4 V (pls t 0).length ((pls t 0).flatMap Pl.cells) ∧ Below w.heap.size w w' := by
  obtain ⟨fA, dA, bA, nA, fC, dC, bC, nC, rfl⟩ := ht.shape
  have HT0 := Lib.hid ht
  have HT := Lib.hid ((ht.later (below_new w (.cells #[.int .i64 t.c, .int .i64 t.w, .bool t.big, .slice fA t.fs.length fC, .slice dA t.ds.length dC, .slice bA t.bs.length bC, .slice nA t.ns.length nC] 28))).up (below_new w (.cells #[.int .i64 t.c, .int .i64 t.w, .bool t.big, .slice fA t.fs.length fC, .slice dA t.ds.length dC, .slice bA t.bs.length bC, .slice nA t.ns.length nC] 28)).size)
  have HBX := Lib.hid (Bx.new w 28 #[.int .i64 t.c, .int .i64 t.w, .bool t.big, .slice fA t.fs.length fC, .slice dA t.ds.length dC, .slice bA t.bs.length bC, .slice nA t.ns.length nC])
  have HE := Lib.hid (show errV t = 0 from if_neg hz)
  have HZ := Lib.hid hz
  have hle := sz_le 4 t
  have hge := sz_ge 4 t
  clear ht hz
  go_enter Try.func19, Try.ntmps19
  go_wp2_with (go_at_call 17; refine (check_any t _ _ ?_).mono ?_)
  · exact HT.out
  rintro _ w2 ⟨he, hb2⟩
  rw [HE.out] at he
  subst he
  have HW := Lib.hid (below_more (below_new _ _) hb2)
  have HBX2 := Lib.hid (HBX.out.later hb2 (by simp))
  have c0 := HBX2.out.cell 0
  have c1 := HBX2.out.cell 1
  have c2 := HBX2.out.cell 2
  have c3 := HBX2.out.cell 3
  have c4 := HBX2.out.cell 4
  have c5 := HBX2.out.cell 5
  have c6 := HBX2.out.cell 6
  have hlt := HBX2.out.lt
  clear hb2 HBX HT
  go_wp2_with (go_at_call 35; refine (pl_any 4 (by omega) (w2.heap.size + 1) w2.heap.size (w2.heap.size + 1 + 1) w.heap.size t _ 0 (.slice none 0 0) [] _ HZ.out (by omega) (by omega) (by omega) (by omega) ?_ ?_ ?_ (by omega) (by omega) (by simp; omega)).mono ?_)
  · simp
  · exact HT0.out.later ((HW.out.alloc HW.out.size _).alloc (by have := HW.out.size; simp; omega) _)
  · refine ⟨Bx.new2 w2 _ _ _, ?_, World.ownsRow_nil _ _ _ _⟩
    exact (Bx.new w2 39 #[.slice none 0 0]).later (B := w2.heap.size + 1) ((Below.refl _ _).alloc (by simp) _) (by omega)
  rintro _ w3 ⟨rfl, V, hs3, hg3, ho3⟩
  have o0 := hs3.out.cell 0
  have HW3 := Lib.hid (show Below w.heap.size w w3 from (HW.out.alloc HW.out.size _).trans (((Below.refl _ _).alloc (by have := HW.out.size; simp; omega) _).trans (hg3.below (by have := HW.out.size; simp; omega) (by omega) (fun k hk => by cases hk))))
  have HO3 := Lib.hid hs3.own
  clear hs3 hg3 ho3
  go_wp2
  go_ret2
  refine ⟨V, rfl, own_base HO3.out (by omega), HW3.out⟩
end Go.Proofs.Ytbdhihgokkcmfaa.Ty9
