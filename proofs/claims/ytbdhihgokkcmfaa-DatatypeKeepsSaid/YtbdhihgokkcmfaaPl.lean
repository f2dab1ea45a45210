/- Sizes: deeper is the same; what a size tells of the parts. -/
import Derived.Test.YtbdhihgokkcmfaaPk
namespace Go.Proofs.Ytbdhihgokkcmfaa.Ty9
set_option linter.unusedVariables false
set_option linter.unusedSimpArgs false
open Go.RowKit Wd

theorem flds_ok {S : Ty → Int} {W : Int} (hW : W ≠ 0) : ∀ (fs : List Fd) (pre : List ByteArray) (e : Int), flds S W fs pre e ≠ 0 → flds S W fs pre e = W
  | [], _, _, _ => rfl
  | f :: fs, pre, e, h => by
    rw [flds] at h ⊢
    split at h
    · exact absurd rfl h
    rename_i hg
    rw [if_neg hg]
    exact flds_ok hW fs _ _ h
theorem flds_cons {S : Ty → Int} {W : Int} {f : Fd} {fs : List Fd} {pre : List ByteArray} {e : Int} (h : flds S W (f :: fs) pre e ≠ 0) :
    S f.ty ≠ 0 ∧ nameB f.name = true ∧ e ≤ f.pos ∧ f.pos + S f.ty ≤ W ∧ f.name ∉ pre ∧ flds S W fs (pre ++ [f.name]) (f.pos + S f.ty) ≠ 0 := by
  rw [flds] at h
  split at h
  · exact absurd rfl h
  rename_i hg
  exact ⟨fun x => hg (.inl x), by cases hn : nameB f.name; exact absurd (.inr (.inl hn)) hg; rfl, Int.not_lt.mp fun x => hg (.inr (.inr (.inl x))), Int.not_lt.mp fun x => hg (.inr (.inr (.inr (.inl x)))), fun x => hg (.inr (.inr (.inr (.inr x)))), h⟩
theorem flds_congr {S T : Ty → Int} {W : Int} : ∀ (fs : List Fd) (pre : List ByteArray) (e : Int), (∀ f ∈ fs, S f.ty ≠ 0 → T f.ty = S f.ty) → flds S W fs pre e ≠ 0 → flds T W fs pre e = flds S W fs pre e
  | [], _, _, _, _ => rfl
  | f :: fs, pre, e, hs, h => by
    obtain ⟨h1, h2, h3, h4, h5, h6⟩ := flds_cons h
    have ht := hs f List.mem_cons_self h1
    have ih := flds_congr fs (pre ++ [f.name]) (f.pos + S f.ty) (fun g hg => hs g (List.mem_cons_of_mem _ hg)) h6
    rw [flds, flds, ht, ih]
theorem dims_ok : ∀ (ds : List Int) (n : Int), dims ds n ≠ 0 → dims ds n = n * prod ds ∧ 1 ≤ prod ds ∧ n ≠ 0
  | [], n, h => ⟨by rw [dims, prod]; omega, by rw [prod]; omega, h⟩
  | d :: ds, n, h => by
    rw [dims] at h ⊢
    split at h
    · exact absurd rfl h
    rename_i hg
    rw [if_neg hg]
    obtain ⟨h1, h2, h3⟩ := dims_ok ds _ h
    refine ⟨by rw [h1, prod, Int.mul_assoc], ?_, fun e => h3 (by rw [e, Int.zero_mul])⟩
    rw [prod]
    have : 1 * 1 ≤ d * prod ds := Int.mul_le_mul (by omega) h2 (by omega) (by omega)
    omega
theorem cap_ok {n : Int} (h : cap256 n ≠ 0) : cap256 n = n := by
  unfold cap256 at h ⊢
  split
  · rename_i hg; rw [if_pos hg] at h; exact absurd rfl h
  · rfl
theorem sz_comp {d : Nat} {t : Ty} (hc : t.c = 5) (h : sz (d + 1) t ≠ 0) : sz (d + 1) t = t.w ∧ 1 ≤ t.w ∧ t.w ≤ 256 ∧ t.big = false ∧ t.ds.length + t.bs.length + t.ns.length = 0 ∧ 1 ≤ t.fs.length ∧ t.fs.length ≤ 16 ∧ flds (sz d) t.w t.fs [] 0 = t.w := by
  have e : sz (d + 1) t = cap256 (compS (sz d) t) := by rw [sz, if_pos hc]
  have hc0 := cap_ok (e ▸ h)
  have hn : compS (sz d) t ≠ 0 := fun x => h (by rw [e, hc0, x])
  rw [e, hc0]
  unfold compS at hn ⊢
  split at hn
  · exact absurd rfl hn
  rename_i hg
  rw [if_neg hg]
  have hw : t.w ≠ 0 := fun x => hg (.inr (.inr (.inl (by omega))))
  have hf := flds_ok hw _ _ _ hn
  have hbig : t.big = false := by cases hb : t.big; rfl; exact absurd (.inl hb) hg
  exact ⟨hf, by omega, by omega, hbig, by omega, by omega, by omega, hf⟩
theorem sz_arr {d : Nat} {t : Ty} (hc : t.c = 6) (h : sz (d + 1) t ≠ 0) : ∃ b, t.bs = [b] ∧ sz d b ≠ 0 ∧ sz (d + 1) t = sz d b * prod t.ds ∧ 1 ≤ prod t.ds ∧ t.big = false ∧ t.w = 0 ∧ t.fs.length + t.ns.length = 0 ∧ 1 ≤ t.ds.length ∧ t.ds.length ≤ 4 ∧ dims t.ds (sz d b) ≠ 0 := by
  have e : sz (d + 1) t = cap256 (arrS (sz d) t) := by rw [sz, if_neg (by omega), if_pos hc]
  have hc0 := cap_ok (e ▸ h)
  have hn : arrS (sz d) t ≠ 0 := fun x => h (by rw [e, hc0, x])
  rw [e, hc0]
  unfold arrS at hn ⊢
  split at hn
  · exact absurd rfl hn
  rename_i hg
  rw [if_neg hg]
  obtain ⟨b, hb⟩ : ∃ b, t.bs = [b] := List.length_eq_one_iff.mp (by omega)
  rw [hb] at hn ⊢
  have hd : arrB (sz d) t.ds [b] = dims t.ds (sz d b) := rfl
  rw [hd] at hn ⊢
  obtain ⟨h1, h2, h3⟩ := dims_ok _ _ hn
  have hbig : t.big = false := by cases hb : t.big; rfl; exact absurd (.inl hb) hg
  exact ⟨b, rfl, h3, h1, h2, hbig, by omega, by omega, by omega, by omega, hn⟩
theorem sz_enum {d : Nat} {t : Ty} (hc : t.c = 7) (h : sz (d + 1) t ≠ 0) : ∃ b, t.bs = [b] ∧ (b.c = 1 ∨ b.c = 2) ∧ numB b = true ∧ sz (d + 1) t = b.w ∧ 1 ≤ d ∧ t.big = false ∧ t.w = 0 ∧ t.fs.length + t.ds.length = 0 ∧ 1 ≤ t.ns.length ∧ t.ns.length ≤ 16 ∧ mems b t.ns [] ≠ 0 := by
  have e : sz (d + 1) t = cap256 (enumS d t) := by rw [sz, if_neg (by omega), if_neg (by omega), if_pos hc]
  have hc0 := cap_ok (e ▸ h)
  have hn : enumS d t ≠ 0 := fun x => h (by rw [e, hc0, x])
  rw [e, hc0]
  unfold enumS at hn ⊢
  split at hn
  · exact absurd rfl hn
  rename_i hg
  rw [if_neg hg]
  obtain ⟨b, hb⟩ : ∃ b, t.bs = [b] := List.length_eq_one_iff.mp (by omega)
  rw [hb] at hn ⊢
  have hd : enumB t.ns [b] = if (b.c = 1 ∨ b.c = 2) ∧ numB b = true then mems b t.ns [] else 0 := rfl
  rw [hd] at hn ⊢
  split at hn
  · rename_i hg2
    rw [if_pos hg2]
    have hm : ∀ (ms pre : List (ByteArray × Int)), mems b ms pre ≠ 0 → mems b ms pre = b.w := by
      intro ms
      induction ms with
      | nil => intro pre _; rfl
      | cons m ms ih =>
        intro pre hh
        rw [mems] at hh ⊢
        split at hh
        · exact absurd rfl hh
        rename_i hg3
        rw [if_neg hg3]
        exact ih _ hh
    have hbig : t.big = false := by cases hb : t.big; rfl; exact absurd (.inl hb) hg
    exact ⟨b, rfl, hg2.1, hg2.2, hm _ _ hn, by omega, hbig, by omega, by omega, by omega, by omega, hn⟩
  · exact absurd rfl hn
theorem sz_nums {d : Nat} {t : Ty} (h5 : t.c ≠ 5) (h6 : t.c ≠ 6) (h7 : t.c ≠ 7) (h : sz (d + 1) t ≠ 0) : numB t = true ∧ sz (d + 1) t = if t.c = 4 then 2 * t.w else t.w := by
  rw [sz_num h5 h6 h7] at h ⊢
  unfold numS at h ⊢
  split at h
  · rename_i hn; exact ⟨hn, if_pos hn⟩
  · exact absurd rfl h

/-- A type that may be at one depth has the same size at the next. -/
theorem sz_step (d : Nat) : ∀ t, sz d t ≠ 0 → sz (d + 1) t = sz d t := by
  induction d with
  | zero => intro t h; exact absurd rfl h
  | succ d ih =>
    intro t h
    by_cases h5 : t.c = 5
    · obtain ⟨e, hw, hw2, hbig, hl, hf1, hf2, hfl⟩ := sz_comp h5 h
      have h2 : flds (sz (d + 1)) t.w t.fs [] 0 = flds (sz d) t.w t.fs [] 0 := flds_congr _ _ _ (fun f _ hf => ih f.ty hf) (by omega)
      rw [sz, if_pos h5, e]
      unfold compS
      rw [if_neg, h2, hfl, cap256, if_neg (by omega)]
      rintro (x | x | x | x | x | x)
      · rw [hbig] at x; cases x
      all_goals omega
    by_cases h6 : t.c = 6
    · obtain ⟨b, hb, hb0, e, hp, hbig, hw, hl, hd1, hd2, hdm⟩ := sz_arr h6 h
      rw [sz, if_neg h5, if_pos h6]
      have he : arrS (sz (d + 1)) t = arrS (sz d) t := by
        unfold arrS
        rw [hb]
        show (if _ then 0 else dims t.ds (sz (d + 1) b)) = (if _ then 0 else dims t.ds (sz d b))
        rw [ih b hb0]
      rw [he]
      exact ((by rw [sz, if_neg h5, if_pos h6] : sz (d + 1) t = cap256 (arrS (sz d) t))).symm
    by_cases h7 : t.c = 7
    · obtain ⟨b, hb, hbc, hn, e, hd1, hbig, hw, hl, hn1, hn2, hm⟩ := sz_enum h7 h
      rw [sz, sz, if_neg h5, if_neg h6, if_pos h7, if_neg h5, if_neg h6, if_pos h7]
      congr 1
      unfold enumS
      congr 1
      rw [eq_iff_iff]
      constructor <;> rintro (x | x | x | x | x | x | x) <;> simp [x] <;> omega
    · rw [sz_num h5 h6 h7, sz_num h5 h6 h7]
theorem sz_add {d : Nat} {t : Ty} (h : sz d t ≠ 0) (k : Nat) : sz (d + k) t = sz d t := by
  induction k with
  | zero => rfl
  | succ k ih => rw [← Nat.add_assoc, sz_step _ _ (by rw [ih]; exact h), ih]
theorem sz_deep {d : Nat} (hd : d ≤ 4) {t : Ty} (h : sz d t ≠ 0) : sz 4 t = sz d t := by
  have := sz_add h (4 - d)
  rwa [show d + (4 - d) = 4 by omega] at this

theorem reps_len (n : Nat) (s : Int) (f : Int → List Pl) (L : Nat) (hf : ∀ q, (f q).length ≤ L) : ∀ p, (reps n s f p).length ≤ n * L := by
  induction n with
  | zero => intro p; simp [reps]
  | succ n ih =>
    intro p
    rw [reps, List.length_append]
    have h1 := hf p
    have h2 := ih (p + s)
    rw [Nat.succ_mul]
    omega
theorem num_len {t : Ty} (h5 : t.c ≠ 5) (h6 : t.c ≠ 6) (h7 : t.c ≠ 7) (p : Int) : pls t p = if t.c = 4 then [⟨p, 3, t.w, t.big⟩, ⟨p + t.w, 3, t.w, t.big⟩] else [⟨p, t.c, t.w, t.big⟩] := by
  cases t with
  | mk c w b fs ds bs ns =>
    change c ≠ 5 at h5
    change c ≠ 6 at h6
    change c ≠ 7 at h7
    rw [pls, if_neg h5, if_neg h6, if_neg h7]; rfl
theorem pls_comp {t : Ty} (h5 : t.c = 5) (p : Int) : pls t p = plf t.fs p := by
  cases t with
  | mk c w b fs ds bs ns =>
    change c = 5 at h5
    rw [pls, if_pos h5]; rfl
theorem pls_arr {t : Ty} (h6 : t.c = 6) {b : Ty} (hb : t.bs = [b]) (p : Int) : pls t p = reps (prod t.ds).toNat (sz 4 b) (fun q => pls b q) p := by
  cases t with
  | mk c w bg fs ds bs ns =>
    change c = 6 at h6
    rw [pls, if_neg (by omega), if_pos h6]
    obtain rfl : bs = [b] := hb
    rfl
theorem pls_enum {t : Ty} (h7 : t.c = 7) {b : Ty} (hb : t.bs = [b]) (p : Int) : pls t p = pls b p := by
  cases t with
  | mk c w bg fs ds bs ns =>
    change c = 7 at h7
    rw [pls, if_neg (by omega), if_neg (by omega), if_pos h7]
    obtain rfl : bs = [b] := hb
    rfl
/-- There are not more numbers in a type than bytes. -/
theorem pls_len (d : Nat) : d ≤ 4 → ∀ (t : Ty) (p : Int), sz d t ≠ 0 → ((pls t p).length : Int) ≤ sz d t := by
  induction d with
  | zero => intro _ t p h; exact absurd rfl h
  | succ d ih =>
    intro hd t p h
    have ih := ih (by omega)
    by_cases h5 : t.c = 5
    · obtain ⟨e, hw, hw2, hbig, hl, hf1, hf2, hfl⟩ := sz_comp h5 h
      rw [pls_comp h5, e]
      have hh : ∀ (fs : List Fd) pre (e : Int), flds (sz d) t.w fs pre e ≠ 0 → e ≤ t.w → ((plf fs p).length : Int) ≤ t.w - e := by
        intro fs
        induction fs with
        | nil => intro pre e _ he; rw [plf]; simp; omega
        | cons f fs ihf =>
          intro pre e hne he
          obtain ⟨h1, h2, h3, h4, h5', h6'⟩ := flds_cons hne
          have hp := ihf _ _ h6' h4
          have hq := ih f.ty (p + f.pos) h1
          rw [plf_cons, List.length_append]
          omega
      have := hh t.fs [] 0 (by omega) (by omega)
      omega
    by_cases h6 : t.c = 6
    · obtain ⟨b, hb, hb0, e, hp, hbig, hw, hl, hd1, hd2, hdm⟩ := sz_arr h6 h
      rw [pls_arr h6 hb, e]
      have hg := sz_ge d b
      have h2 := reps_len (prod t.ds).toNat (sz 4 b) (fun q => pls b q) (sz d b).toNat (fun q => by have := ih b q hb0; omega) p
      have h3 : (((prod t.ds).toNat * (sz d b).toNat : Nat) : Int) = prod t.ds * sz d b := by
        rw [Int.natCast_mul, Int.toNat_of_nonneg (by omega), Int.toNat_of_nonneg hg]
      rw [Int.mul_comm]
      omega
    by_cases h7 : t.c = 7
    · obtain ⟨b, hb, hbc, hn, e, hd1, hbig, hw, hl, hn1, hn2, hm⟩ := sz_enum h7 h
      rw [pls_enum h7 hb, num_len (by omega) (by omega) (by omega), if_neg (by omega), e]
      have := (numB_iff b).mp hn
      simp
      omega
    · obtain ⟨hn, e⟩ := sz_nums h5 h6 h7 h
      have := (numB_iff t).mp hn
      rw [num_len h5 h6 h7, e]
      split <;> simp <;> omega

/-- The state in the midst of a call. -/
structure Rs (gw go base : Nat) (V : Value) (w : World) (V' : Value) (xs : List Pl) (wr : World) : Prop where
  st : PSt gw go base V' xs wr
  gr : Gr go V.ownBlock w wr
  ow : V'.ownBlock = V.ownBlock ∨ ∃ k, V'.ownBlock = some k ∧ w.heap.size ≤ k
theorem Rs.step {gw go base : Nat} {V V' V2 : Value} {w wr w2 : World} {xs ys : List Pl} (h : Rs gw go base V w V' xs wr) (hs : PSt gw go base V2 ys w2) (hg : Gr go V'.ownBlock wr w2)
    (ho : V2.ownBlock = V'.ownBlock ∨ ∃ k, V2.ownBlock = some k ∧ wr.heap.size ≤ k) : Rs gw go base V w V2 ys w2 := by
  refine ⟨hs, h.gr.trans h.ow hg, ?_⟩
  rcases ho with ho | ⟨k, ho, hk⟩
  · rw [ho]; exact h.ow
  · exact .inr ⟨k, ho, Nat.le_trans h.gr.size hk⟩
theorem Rs.below {gw go base : Nat} {V V' : Value} {w wr w2 : World} {xs : List Pl} (h : Rs gw go base V w V' xs wr) (hb : Below wr.heap.size wr w2) : Rs gw go base V w V' xs w2 :=
  h.step (h.st.below hb) (.of_below hb) (.inl rfl)
theorem Rs.start {gw go base : Nat} {V : Value} {w w2 : World} {xs : List Pl} (h : PSt gw go base V xs w) (hb : Below w.heap.size w w2) : Rs gw go base V w V xs w2 :=
  ⟨h.below hb, .of_below hb, .inl rfl⟩
/-- What lies below B is as it was. -/
theorem Rs.keep {gw go base B : Nat} {V V' : Value} {w wr : World} {xs zs : List Pl} (h : Rs gw go base V w V' xs wr) (h0 : PSt gw go base V zs w) (hB : B ≤ go) (hB2 : B ≤ base) (hb : base ≤ w.heap.size) : Below B w wr :=
  h.gr.below (by omega) hB (fun k hk => by have := (h0.own.lt k hk).1; omega)
/-- A block that came in the midst of the call and is not the slice's. -/
theorem Rs.box {gw go base : Nat} {V V' V2 : Value} {w wr w2 : World} {xs ys : List Pl} (h : Rs gw go base V w V' xs wr) {g : Nat} {t : TypeId} {cs : Array Value} (hbx : Bx wr g t cs) (hg : Gr go V'.ownBlock wr w2) (hne : some g ≠ V'.ownBlock) (hgo : g ≠ go) : Bx w2 g t cs :=
  hg.bx hbx hgo hne
end Go.Proofs.Ytbdhihgokkcmfaa.Ty9
