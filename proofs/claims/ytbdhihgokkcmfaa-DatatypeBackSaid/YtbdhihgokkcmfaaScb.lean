/- A type's bytes lead back to it (no program in sight). -/
import Derived.Test.YtbdhihgokkcmfaaSca
import Derived.Test.YtbdhihgokkcmfaaLa
import Derived.Test.YtbdhihgokkcmfaaOa
namespace Go.Proofs.Ytbdhihgokkcmfaa.Ty9
set_option linter.unusedVariables false
set_option linter.unusedSimpArgs false
open Go.RowKit Wd

theorem digs_rv (n u : Nat) : (digs n true u).reverse = digs n false u := by
  apply List.ext_getElem
  · simp [digs]
  · intro i h1 h2
    simp [digs] at h1 h2 ⊢
    simp [pos]
    congr 1
    omega
theorem digs_more (n u : Nat) : digs (n + 1) false u = digs n false u ++ [dig u n] := by
  unfold digs
  rw [List.range_succ, List.map_append]
  rfl
theorem lval_lo (n u : Nat) : lval (digs n false u) = u % 256 ^ n := by
  induction n with
  | zero => simp [digs, lval, Nat.mod_one]
  | succ n ih =>
    rw [digs_more, lval_snoc, ih, digs_len]
    unfold dig
    rw [Nat.pow_succ, Nat.mod_mul, Nat.mul_comm (256 ^ n)]
theorem lval_hi (n u : Nat) : lval (lows true (digs n true u)) = u % 256 ^ n := by
  unfold lows
  rw [if_pos rfl, digs_rv, lval_lo]
/-- A number laid down is read. -/
theorem nuR_at {bs pre suf : List Nat} {n u : Nat} {s : Nat × Bool} (h : bs = pre ++ (digs n true u ++ suf)) (hp : pre.length = s.1) (hu : u < 256 ^ n) : nuR bs n s = (wrap64 (u : Int), s.1 + n, s.2) := by
  subst h
  unfold nuR
  rw [if_pos (by simp [digs_len]; omega), ← hp, List.drop_left' rfl, List.take_left' (by rw [digs_len]), lval_hi, Nat.mod_eq_of_lt hu]
theorem strOf_sbytes (s : ByteArray) : strOf (sbytes s) = s := by
  unfold strOf sbytes
  cases s with
  | mk d =>
    congr 1
    have e : (List.map (UInt8.ofNat ∘ UInt8.toNat) d.toList) = d.toList := by
      conv => rhs; rw [← List.map_id d.toList]
      exact List.map_congr_left fun x _ => by simp
    simp [e]
theorem txR_at {bs pre suf : List Nat} {s : ByteArray} {p : Nat × Bool} (h : bs = pre ++ (digs 4 true s.size ++ sbytes s ++ suf)) (hp : pre.length = p.1) (hu : s.size ≤ 65536) : txR bs p = (s, p.1 + 4 + s.size, p.2) := by
  have e : (bs.drop p.1).take 4 = digs 4 true s.size := by
    rw [h, ← hp, List.drop_left' rfl, List.append_assoc, List.take_left' (by rw [digs_len])]
  have e2 : lval (lows true ((bs.drop p.1).take 4)) = s.size := by
    rw [e, lval_hi, Nat.mod_eq_of_lt (by omega)]
  have hl : bs.length = pre.length + 4 + s.size + suf.length := by rw [h]; simp [digs_len, sbytes_len]; omega
  have e3 : (bs.drop (p.1 + 4)).take s.size = sbytes s := by
    rw [h, ← hp, show pre ++ (digs 4 true s.size ++ sbytes s ++ suf) = (pre ++ digs 4 true s.size) ++ (sbytes s ++ suf) by simp, List.drop_left' (by simp [digs_len]), List.take_left' (by rw [sbytes_len])]
  unfold txR
  rw [e2, if_pos ⟨by omega, by omega, by omega⟩, e3, strOf_sbytes]
theorem bits_wrap {x : Int} (h0 : -9223372036854775808 ≤ x) (h1 : x ≤ 9223372036854775807) : wrap64 (bits64 x : Int) = x := by
  unfold wrap64 bits64; omega
theorem bits_small {x : Int} (h0 : 0 ≤ x) (h1 : x ≤ 9223372036854775807) : bits64 x = x.toNat := by unfold bits64; omega
theorem bits_lt8 (x : Int) : bits64 x < 256 ^ 8 := by
  have : (256 : Nat) ^ 8 = 18446744073709551616 := by decide
  rw [this]; unfold bits64; omega

/-- The fields' places, widths and names are small. -/
theorem dmR_at : ∀ (ds : List Int) (bs pre suf : List Nat) (p : Nat), bs = pre ++ (lbd ds ++ suf) → pre.length = p → (∀ d ∈ ds, 1 ≤ d ∧ d ≤ 256) → dmR bs ds.length (p, true) = (ds, p + (lbd ds).length, true)
  | [], bs, pre, suf, p, _, _, _ => rfl
  | d :: ds, bs, pre, suf, p, h, hp, hd => by
    obtain ⟨d0, d1⟩ := hd d List.mem_cons_self
    have e : lbd (d :: ds) = digs 2 true (bits64 d) ++ lbd ds := rfl
    rw [e] at h
    have hn : nuR bs 2 (p, true) = (d, p + 2, true) := by
      rw [nuR_at (pre := pre) (n := 2) (u := bits64 d) (suf := lbd ds ++ suf) (by rw [h, List.append_assoc]) hp (by rw [bits_small (by omega) (by omega)]; omega), bits_wrap (by omega) (by omega)]
    have ih := dmR_at ds bs (pre ++ digs 2 true (bits64 d)) suf (p + 2) (by rw [h]; simp) (by simp [digs_len, hp]) (fun x hx => hd x (List.mem_cons_of_mem _ hx))
    rw [List.length_cons, dmR_go hn, ih, e, List.length_append, digs_len, ← Nat.add_assoc]
theorem msR_at : ∀ (ns : List (ByteArray × Int)) (bs pre suf : List Nat) (p : Nat), bs = pre ++ (lbm ns ++ suf) → pre.length = p → (∀ m ∈ ns, m.1.size ≤ 64 ∧ -9223372036854775808 ≤ m.2 ∧ m.2 ≤ 9223372036854775807) → msR bs ns.length (p, true) = (ns, p + (lbm ns).length, true)
  | [], bs, pre, suf, p, _, _, _ => rfl
  | m :: ns, bs, pre, suf, p, h, hp, hd => by
    obtain ⟨d0, d1, d2⟩ := hd m List.mem_cons_self
    have e : lbm (m :: ns) = digs 4 true m.1.size ++ sbytes m.1 ++ digs 8 true (bits64 m.2) ++ lbm ns := rfl
    rw [e] at h
    have ht : txR bs (p, true) = (m.1, p + 4 + m.1.size, true) := txR_at (pre := pre) (suf := digs 8 true (bits64 m.2) ++ (lbm ns ++ suf)) (by rw [h]; simp) hp (by omega)
    have hn : nuR bs 8 (p + 4 + m.1.size, true) = (m.2, p + 4 + m.1.size + 8, true) := by
      rw [nuR_at (pre := pre ++ digs 4 true m.1.size ++ sbytes m.1) (n := 8) (u := bits64 m.2) (suf := lbm ns ++ suf) (by rw [h]; simp) (by simp [digs_len, sbytes_len]; omega) (bits_lt8 _), bits_wrap d1 d2]
    have ih := msR_at ns bs (pre ++ digs 4 true m.1.size ++ sbytes m.1 ++ digs 8 true (bits64 m.2)) suf (p + 4 + m.1.size + 8) (by rw [h]; simp) (by simp [digs_len, sbytes_len]; omega) (fun x hx => hd x (List.mem_cons_of_mem _ hx))
    rw [List.length_cons, msR_go ht hn, ih, e]
    have : p + 4 + m.1.size + 8 + (lbm ns).length = p + (digs 4 true m.1.size ++ sbytes m.1 ++ digs 8 true (bits64 m.2) ++ lbm ns).length := by simp [digs_len, sbytes_len]; omega
    rw [this]
theorem dims_le : ∀ (ds : List Int) (n : Int), dims ds n ≠ 0 → ∀ d ∈ ds, 1 ≤ d ∧ d ≤ 256
  | [], _, _ => fun d h => absurd h List.not_mem_nil
  | d :: ds, n, h => by
    rw [dims] at h
    split at h
    · exact absurd rfl h
    · intro x hx
      rcases List.mem_cons.mp hx with rfl | hx
      · omega
      · exact dims_le ds _ h x hx
theorem mems_le {b : Ty} : ∀ (ms pre : List (ByteArray × Int)), mems b ms pre ≠ 0 → ∀ m ∈ ms, m.1.size ≤ 64
  | [], _, _ => fun d h => absurd h List.not_mem_nil
  | m :: ms, pre, h => by
    rw [mems] at h
    split at h
    · exact absurd rfl h
    · rename_i hg
      intro x hx
      rcases List.mem_cons.mp hx with rfl | hx
      · have hn : nameB x.1 = true := by
          cases hn : nameB x.1
          · exact absurd (.inl hn) hg
          · rfl
        exact ((nameB_iff _).mp hn).2.1
      · exact mems_le ms _ h x hx
/-- The members' numbers are numbers of 64 bits. -/
inductive Ok64 : Ty → Prop where
  | mk (c w : Int) (b : Bool) (fs : List Fd) (ds : List Int) (bs : List Ty) (ns : List (ByteArray × Int)) (h1 : ∀ x ∈ ns, -9223372036854775808 ≤ x.2 ∧ x.2 ≤ 9223372036854775807) (h2 : ∀ f ∈ fs, Ok64 f.ty) (h3 : ∀ x ∈ bs, Ok64 x) : Ok64 (.mk c w b fs ds bs ns)
theorem TyAt.ok64 {w : World} {B : Nat} {t : Ty} {v : Value} (h : TyAt w B t v) : Ok64 t := by
  induction h with
  | mk c wd b fs ds bs ns fA dA bA nA fC dC bC nC fb fo db dO bb bo nb nO fv bv hf hd hb hn hfz hnz hnr hcap hfA hdA hbA hnA hf0 hf1 hf2 hft hd0 hb0 hbt hn0 hn1 ihf ihb =>
    refine .mk c wd b fs ds bs ns hnr (fun f hf => ?_) (fun x hx => ?_)
    · obtain ⟨i, hi, rfl⟩ := List.mem_iff_getElem.mp hf
      exact ihf i hi
    · obtain ⟨i, hi, rfl⟩ := List.mem_iff_getElem.mp hx
      exact ihb i hi
theorem flds_small {S : Ty → Int} {W : Int} : ∀ (fs : List Fd) (pre : List ByteArray) (e : Int), (∀ t, 0 ≤ S t) → 0 ≤ e → flds S W fs pre e ≠ 0 → ∀ f ∈ fs, S f.ty ≠ 0 ∧ f.name.size ≤ 64 ∧ 0 ≤ f.pos ∧ f.pos ≤ W
  | [], _, _, _, _, _ => fun d h => absurd h List.not_mem_nil
  | f :: fs, pre, e, hS, he, h => by
    obtain ⟨h1, h2, h3, h4, h5, h6⟩ := flds_cons h
    have := hS f.ty
    intro x hx
    rcases List.mem_cons.mp hx with rfl | hx
    · exact ⟨h1, ((nameB_iff _).mp h2).2.1, by omega, by omega⟩
    · exact flds_small fs _ _ hS (by omega) h6 x hx
theorem fdR_at (f : Nat × Bool → Ty × Nat × Bool) (bs : List Nat) : ∀ (fs : List Fd) (pre suf : List Nat) (p : Nat), bs = pre ++ (lbf fs ++ suf) → pre.length = p →
    (∀ x ∈ fs, x.name.size ≤ 64 ∧ 0 ≤ x.pos ∧ x.pos ≤ 256 ∧ ∀ (pre suf : List Nat) (p : Nat), bs = pre ++ (lb x.ty ++ suf) → pre.length = p → f (p, true) = (x.ty, p + (lb x.ty).length, true)) → fdR bs f fs.length (p, true) = (fs, p + (lbf fs).length, true)
  | [], pre, suf, p, _, _, _ => rfl
  | x :: fs, pre, suf, p, h, hp, hd => by
    obtain ⟨d0, d1, d2, d3⟩ := hd x List.mem_cons_self
    have e := lbf_cons x fs
    rw [e] at h
    have ht : txR bs (p, true) = (x.name, p + 4 + x.name.size, true) := txR_at (pre := pre) (suf := digs 2 true (bits64 x.pos) ++ (lb x.ty ++ (lbf fs ++ suf))) (by rw [h]; simp) hp (by omega)
    have hn : nuR bs 2 (p + 4 + x.name.size, true) = (x.pos, p + 4 + x.name.size + 2, true) := by
      rw [nuR_at (pre := pre ++ digs 4 true x.name.size ++ sbytes x.name) (n := 2) (u := bits64 x.pos) (suf := lb x.ty ++ (lbf fs ++ suf)) (by rw [h]; simp) (by simp [digs_len, sbytes_len]; omega) (by rw [bits_small (by omega) (by omega)]; omega), bits_wrap (by omega) (by omega)]
    have hf := d3 (pre ++ digs 4 true x.name.size ++ sbytes x.name ++ digs 2 true (bits64 x.pos)) (lbf fs ++ suf) (p + 4 + x.name.size + 2) (by rw [h]; simp) (by simp [digs_len, sbytes_len]; omega)
    have ih := fdR_at f bs fs (pre ++ digs 4 true x.name.size ++ sbytes x.name ++ digs 2 true (bits64 x.pos) ++ lb x.ty) suf (p + 4 + x.name.size + 2 + (lb x.ty).length) (by rw [h]; simp) (by simp [digs_len, sbytes_len]; omega) (fun y hy => hd y (List.mem_cons_of_mem _ hy))
    rw [List.length_cons, fdR_go ht hn hf, ih, e]
    have : p + 4 + x.name.size + 2 + (lb x.ty).length + (lbf fs).length = p + (digs 4 true x.name.size ++ sbytes x.name ++ digs 2 true (bits64 x.pos) ++ lb x.ty ++ lbf fs).length := by simp [digs_len, sbytes_len]; omega
    rw [this]
    cases x
    rfl
theorem one_at {bs pre suf : List Nat} {k : Nat} {s : Nat × Bool} (h : bs = pre ++ (k :: suf)) (hp : pre.length = s.1) (hk : k < 256) : nuR bs 1 s = ((k : Int), s.1 + 1, s.2) := by
  have e : digs 1 true k = [k] := by simp [digs, dig, pos, Nat.mod_eq_of_lt hk, List.range_succ]
  rw [nuR_at (pre := pre) (n := 1) (u := k) (suf := suf) (by rw [e, h]; rfl) hp (by omega)]
  rw [show wrap64 (k : Int) = (k : Int) from by unfold wrap64; omega]

/-- A type's bytes lead back to it. -/
theorem tkR_at (bs : List Nat) : ∀ (d : Nat) (t : Ty), sz d t ≠ 0 → Ok64 t → ∀ (pre suf : List Nat) (p : Nat), bs = pre ++ (lb t ++ suf) → pre.length = p → tkR bs d (p, true) = (t, p + (lb t).length, true) := by
  intro d
  induction d with
  | zero => intro t h; exact absurd rfl h
  | succ d ih =>
    intro t h h64 pre suf p hbs hp
    cases h64 with
    | mk c w b fs ds bs2 ns h1 h2 h3 =>
    generalize ht : Ty.mk c w b fs ds bs2 ns = t at *
    have e0 : t.c = c ∧ t.w = w ∧ t.big = b ∧ t.fs = fs ∧ t.ds = ds ∧ t.bs = bs2 ∧ t.ns = ns := by subst ht; exact ⟨rfl, rfl, rfl, rfl, rfl, rfl, rfl⟩
    obtain ⟨ec, ew, eb, ef, ed, ebs, en⟩ := e0
    by_cases h5 : t.c = 5
    · obtain ⟨_, hw, hw2, hbig, hl, hf1, hf2, hfl⟩ := sz_comp h5 h
      have e := lb_comp h5
      have hsm := flds_small _ _ _ (sz_ge d) (Int.le_refl _) (show flds (sz d) t.w t.fs [] 0 ≠ 0 by rw [hfl]; omega)
      rw [e] at hbs
      have hl1 : bits64 (t.fs.length : Int) = t.fs.length := by rw [bits_small (by omega) (by omega)]; rfl
      have n1 : nuR bs 1 (p, true) = (5, p + 1, true) := one_at (pre := pre) (k := 5) (by rw [hbs]; rfl) hp (by omega)
      have n2 : nuR bs 2 (p + 1, true) = (t.w, p + 1 + 2, true) := by
        rw [nuR_at (pre := pre ++ [5]) (n := 2) (u := bits64 t.w) (suf := digs 1 true (bits64 t.fs.length) ++ (lbf t.fs ++ suf)) (by rw [hbs]; simp) (by simp [hp]) (by rw [bits_small (by omega) (by omega)]; omega), bits_wrap (by omega) (by omega)]
      have n3 : nuR bs 1 (p + 1 + 2, true) = ((t.fs.length : Int), p + 1 + 2 + 1, true) := by
        rw [nuR_at (pre := pre ++ [5] ++ digs 2 true (bits64 t.w)) (n := 1) (u := bits64 t.fs.length) (suf := lbf t.fs ++ suf) (by rw [hbs]; simp) (by simp [digs_len, hp]) (by rw [hl1]; omega), bits_wrap (by omega) (by omega)]
      have n4 := fdR_at (tkR bs d) bs t.fs (pre ++ [5] ++ digs 2 true (bits64 t.w) ++ digs 1 true (bits64 t.fs.length)) suf (p + 1 + 2 + 1) (by rw [hbs]; simp) (by simp [digs_len, hp])
        (fun x hx => ⟨(hsm x hx).2.1, (hsm x hx).2.2.1, by have := (hsm x hx).2.2.2; omega, ih x.ty (hsm x hx).1 (h2 x (ef ▸ hx))⟩)
      rw [tkR_5 n1 n2 n3 n4, e]
      have : p + 1 + 2 + 1 + (lbf t.fs).length = p + (5 :: (digs 2 true (bits64 t.w) ++ digs 1 true (bits64 t.fs.length) ++ lbf t.fs)).length := by simp [digs_len]; omega
      rw [this]
      have : Ty.mk 5 t.w false t.fs [] [] [] = t := by
        have q1 : ds = [] := List.eq_nil_of_length_eq_zero (by rw [← ed]; omega)
        have q2 : bs2 = [] := List.eq_nil_of_length_eq_zero (by rw [← ebs]; omega)
        have q3 : ns = [] := List.eq_nil_of_length_eq_zero (by rw [← en]; omega)
        subst ht
        change c = 5 at h5
        change b = false at hbig
        subst h5 hbig q1 q2 q3
        rfl
      rw [this]
    by_cases h6 : t.c = 6
    · obtain ⟨x, hx, hx0, _, hp1, hbig, hw, hl, hd1, hd2, hdm⟩ := sz_arr h6 h
      have e := lb_arr h6 hx
      rw [e] at hbs
      have hl1 : bits64 (t.ds.length : Int) = t.ds.length := by rw [bits_small (by omega) (by omega)]; rfl
      have n1 : nuR bs 1 (p, true) = (6, p + 1, true) := one_at (pre := pre) (k := 6) (by rw [hbs]; rfl) hp (by omega)
      have n3 : nuR bs 1 (p + 1, true) = ((t.ds.length : Int), p + 1 + 1, true) := by
        rw [nuR_at (pre := pre ++ [6]) (n := 1) (u := bits64 t.ds.length) (suf := lbd t.ds ++ (lb x ++ suf)) (by rw [hbs]; simp) (by simp [hp]) (by rw [hl1]; omega), bits_wrap (by omega) (by omega)]
      have n4 := dmR_at t.ds bs (pre ++ [6] ++ digs 1 true (bits64 t.ds.length)) (lb x ++ suf) (p + 1 + 1) (by rw [hbs]; simp) (by simp [digs_len, hp]) (dims_le _ _ hdm)
      have n5 := ih x hx0 (h3 x (by rw [← ebs, hx]; exact List.mem_singleton.mpr rfl)) (pre ++ [6] ++ digs 1 true (bits64 t.ds.length) ++ lbd t.ds) suf (p + 1 + 1 + (lbd t.ds).length) (by rw [hbs]; simp) (by simp [digs_len, hp]; omega)
      rw [tkR_6 n1 n3 n4 n5, e]
      have : p + 1 + 1 + (lbd t.ds).length + (lb x).length = p + (6 :: (digs 1 true (bits64 t.ds.length) ++ lbd t.ds ++ lb x)).length := by simp [digs_len]; omega
      rw [this]
      have : Ty.mk 6 0 false [] t.ds [x] [] = t := by
        have q1 : fs = [] := List.eq_nil_of_length_eq_zero (by rw [← ef]; omega)
        have q3 : ns = [] := List.eq_nil_of_length_eq_zero (by rw [← en]; omega)
        subst ht
        change c = 6 at h6
        change b = false at hbig
        change w = 0 at hw
        change bs2 = [x] at hx
        subst h6 hbig q1 q3 hw hx
        rfl
      rw [this]
    by_cases h7 : t.c = 7
    · obtain ⟨x, hx, hxc, hxn, _, hd1, hbig, hw, hl, hn1, hn2, hmm⟩ := sz_enum h7 h
      have e := lb_enum h7 hx
      rw [e] at hbs
      have hl1 : bits64 (t.ns.length : Int) = t.ns.length := by rw [bits_small (by omega) (by omega)]; rfl
      have n1 : nuR bs 1 (p, true) = (7, p + 1, true) := one_at (pre := pre) (k := 7) (by rw [hbs]; rfl) hp (by omega)
      have hx0 : sz d x ≠ 0 := by
        obtain ⟨d, rfl⟩ : ∃ e, d = e + 1 := ⟨d - 1, by omega⟩
        rw [sz_num (by omega) (by omega) (by omega)]
        unfold numS
        rw [if_pos hxn, if_neg (by omega)]
        have := (numB_iff x).mp hxn
        omega
      have n2 := ih x hx0 (h3 x (by rw [← ebs, hx]; exact List.mem_singleton.mpr rfl)) (pre ++ [7]) (digs 1 true (bits64 t.ns.length) ++ (lbm t.ns ++ suf)) (p + 1) (by rw [hbs]; simp) (by simp [hp])
      have n3 : nuR bs 1 (p + 1 + (lb x).length, true) = ((t.ns.length : Int), p + 1 + (lb x).length + 1, true) := by
        rw [nuR_at (pre := pre ++ [7] ++ lb x) (n := 1) (u := bits64 t.ns.length) (suf := lbm t.ns ++ suf) (by rw [hbs]; simp) (by simp [hp]; omega) (by rw [hl1]; omega), bits_wrap (by omega) (by omega)]
      have n4 := msR_at t.ns bs (pre ++ [7] ++ lb x ++ digs 1 true (bits64 t.ns.length)) suf (p + 1 + (lb x).length + 1) (by rw [hbs]; simp) (by simp [digs_len, hp]; omega) (fun m hm => ⟨mems_le _ _ hmm m hm, h1 m (en ▸ hm)⟩)
      rw [tkR_7 n1 n2 n3 n4, e]
      have : p + 1 + (lb x).length + 1 + (lbm t.ns).length = p + (7 :: (lb x ++ digs 1 true (bits64 t.ns.length) ++ lbm t.ns)).length := by simp [digs_len]; omega
      rw [this]
      have : Ty.mk 7 0 false [] [] [x] t.ns = t := by
        have q1 : fs = [] := List.eq_nil_of_length_eq_zero (by rw [← ef]; omega)
        have q3 : ds = [] := List.eq_nil_of_length_eq_zero (by rw [← ed]; omega)
        subst ht
        change c = 7 at h7
        change b = false at hbig
        change w = 0 at hw
        change bs2 = [x] at hx
        subst h7 hbig q1 q3 hw hx
        rfl
      rw [this]
    · obtain ⟨hn, _⟩ := sz_nums h5 h6 h7 h
      have hn' := (numB_iff t).mp hn
      have e := lb_num h5 h6 h7
      rw [e] at hbs
      have n1 : nuR bs 1 (p, true) = (t.c, p + 1, true) := by
        rw [one_at (pre := pre) (k := t.c.toNat) (suf := t.w.toNat :: (if t.big = true then 1 else 0) :: suf) (by rw [hbs]; rfl) hp (by omega), show ((t.c.toNat : Nat) : Int) = t.c by omega]
      have n2 : nuR bs 1 (p + 1, true) = (t.w, p + 1 + 1, true) := by
        rw [one_at (pre := pre ++ [t.c.toNat]) (k := t.w.toNat) (suf := (if t.big = true then 1 else 0) :: suf) (by rw [hbs]; simp) (by simp [hp]) (by omega), show ((t.w.toNat : Nat) : Int) = t.w by omega]
      have n3 : nuR bs 1 (p + 1 + 1, true) = (((if t.big = true then 1 else 0 : Nat) : Int), p + 1 + 1 + 1, true) :=
        one_at (pre := pre ++ [t.c.toNat, t.w.toNat]) (k := if t.big = true then 1 else 0) (suf := suf) (by rw [hbs]; simp) (by simp [hp]) (by split <;> omega)
      rw [tkR_0 h5 h6 h7 n1 n2 n3, e]
      have : Ty.mk t.c t.w (decide (((if t.big = true then 1 else 0 : Nat) : Int) = 1)) [] [] [] [] = t := by
        have q1 : fs = [] := List.eq_nil_of_length_eq_zero (by rw [← ef]; omega)
        have q2 : ds = [] := List.eq_nil_of_length_eq_zero (by rw [← ed]; omega)
        have q3 : bs2 = [] := List.eq_nil_of_length_eq_zero (by rw [← ebs]; omega)
        have q4 : ns = [] := List.eq_nil_of_length_eq_zero (by rw [← en]; omega)
        subst ht q1 q2 q3 q4
        cases b <;> rfl
      rw [this]
      rfl
theorem lt_flat {α : Type} {l : List α} {f : α → List Nat} (h : ∀ a ∈ l, ∀ x ∈ f a, x < 256) : ∀ x ∈ l.flatMap f, x < 256 := by
  intro x hx
  obtain ⟨a, ha, hx⟩ := List.mem_flatMap.mp hx
  exact h a ha x hx
theorem lbf_lt : ∀ (fs : List Fd), (∀ f ∈ fs, ∀ x ∈ lb f.ty, x < 256) → ∀ x ∈ lbf fs, x < 256
  | [], _ => fun x h => absurd h List.not_mem_nil
  | f :: fs, h => by
    rw [lbf_cons]
    exact lt_app (lt_app (lt_app (lt_app (digs_lt _ _ _) (sbytes_lt _)) (digs_lt _ _ _)) (h f List.mem_cons_self)) (lbf_lt fs fun g hg => h g (List.mem_cons_of_mem _ hg))
/-- The bytes of a type that may be are bytes. -/
theorem lb_lt : ∀ (d : Nat) (t : Ty), sz d t ≠ 0 → ∀ x ∈ lb t, x < 256 := by
  intro d
  induction d with
  | zero => intro t h; exact absurd rfl h
  | succ d ih =>
    intro t h
    have hc : ∀ (k : Nat) (l : List Nat), k < 256 → (∀ x ∈ l, x < 256) → ∀ x ∈ k :: l, x < 256 := by
      intro k l hk hl x hx
      rcases List.mem_cons.mp hx with rfl | hx
      · exact hk
      · exact hl x hx
    by_cases h5 : t.c = 5
    · obtain ⟨_, hw, hw2, hbig, hl, hf1, hf2, hfl⟩ := sz_comp h5 h
      have hsm := flds_small _ _ _ (sz_ge d) (Int.le_refl _) (show flds (sz d) t.w t.fs [] 0 ≠ 0 by rw [hfl]; omega)
      rw [lb_comp h5]
      exact hc _ _ (by omega) (lt_app (lt_app (digs_lt _ _ _) (digs_lt _ _ _)) (lbf_lt _ fun f hf => ih f.ty (hsm f hf).1))
    by_cases h6 : t.c = 6
    · obtain ⟨b, hb, hb0, _⟩ := sz_arr h6 h
      rw [lb_arr h6 hb]
      exact hc _ _ (by omega) (lt_app (lt_app (digs_lt _ _ _) (lt_flat fun a _ => digs_lt _ _ _)) (ih b hb0))
    by_cases h7 : t.c = 7
    · obtain ⟨b, hb, hxc, hxn, _, hd1, _⟩ := sz_enum h7 h
      have hx0 : sz d b ≠ 0 := by
        obtain ⟨d, rfl⟩ : ∃ e, d = e + 1 := ⟨d - 1, by omega⟩
        rw [sz_num (by omega) (by omega) (by omega)]
        unfold numS
        rw [if_pos hxn, if_neg (by omega)]
        have := (numB_iff b).mp hxn
        omega
      rw [lb_enum h7 hb]
      exact hc _ _ (by omega) (lt_app (lt_app (ih b hx0) (digs_lt _ _ _)) (lt_flat fun a _ => lt_app (lt_app (digs_lt _ _ _) (sbytes_lt _)) (digs_lt _ _ _)))
    · obtain ⟨hn, _⟩ := sz_nums h5 h6 h7 h
      have hn' := (numB_iff t).mp hn
      rw [lb_num h5 h6 h7]
      exact hc _ _ (by omega) (hc _ _ (by omega) (hc _ _ (by split <;> omega) fun x h => absurd h List.not_mem_nil))
end Go.Proofs.Ytbdhihgokkcmfaa.Ty9
