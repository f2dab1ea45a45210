/- What Load tells. -/
import Derived.Test.YtkdfafaiabidgaaDoorKcg
import Derived.Test.YtkdfafaiabidgaaDoorKce
namespace Go.Proofs.YtkdfafaiabidgaaDoor.X5
set_option linter.unusedVariables false
set_option linter.unusedSimpArgs false
open Go.RowKit Wd Ty9

/-- The number of four bytes at a place. -/
def V4 (x : List Nat) (p : Nat) : Nat := lval (lows true ((x.drop p).take 4))
def ents (x : List Nat) (n : Nat) : List Xt := (List.range n).map fun i => ((V4 x (4 + 8 * i) : Int), (V4 x (8 + 8 * i) : Int))
theorem ents_len (x : List Nat) (n : Nat) : (ents x n).length = n := by simp [ents]
theorem ents_succ (x : List Nat) (n : Nat) : ents x (n + 1) = ents x n ++ [((V4 x (4 + 8 * n) : Int), (V4 x (8 + 8 * n) : Int))] := by unfold ents; rw [List.range_succ, List.map_append]; rfl
theorem part_lt {x : List Nat} (hlt : ∀ y ∈ x, y < 256) (p : Nat) : ∀ y ∈ (x.drop p).take 4, y < 256 := fun y hy => hlt y (List.mem_of_mem_drop (List.mem_of_mem_take hy))
theorem V4_lt {x : List Nat} (hlt : ∀ y ∈ x, y < 256) (p : Nat) : V4 x p < 4294967296 := by
  unfold V4
  have h := lval_lt (lows true ((x.drop p).take 4)) (fun y hy => part_lt hlt p y (lows_mem hy))
  rw [lows_len] at h
  have h2 : ((x.drop p).take 4).length ≤ 4 := by rw [List.length_take]; omega
  exact Nat.lt_of_lt_of_le h (Nat.pow_le_pow_right (by omega) h2)
theorem digs_V4 {x : List Nat} (hlt : ∀ y ∈ x, y < 256) {p : Nat} (hp : p + 4 ≤ x.length) : digs 4 true (V4 x p) = (x.drop p).take 4 := by
  have hl : ((x.drop p).take 4).length = 4 := by rw [List.length_take, List.length_drop]; omega
  have hv : V4 x p = lval ((x.drop p).take 4).reverse := rfl
  have hlt4 := V4_lt hlt p
  rw [← digs_rev]
  have h : digs 4 false (V4 x p) = ((x.drop p).take 4).reverse := by
    refine lval_inj _ _ (by rw [digs_len, List.length_reverse, hl]) (digs_lt _ _ _) (fun y hy => part_lt hlt p y (List.mem_reverse.mp hy)) ?_
    rw [lval_digs, Nat.mod_eq_of_lt hlt4, hv]
  rw [h, List.reverse_reverse]
theorem extN_app (a b : List Xt) : extN (a ++ b) = extN a ++ extN b := by unfold extN; simp
theorem numB_app (a b : List Int) : numB (a ++ b) = numB a ++ numB b := by unfold numB; simp
theorem numB_ents {x : List Nat} (hlt : ∀ y ∈ x, y < 256) (n : Nat) (hn : 4 + 8 * n ≤ x.length) : numB (extN (ents x n)) = (x.drop 4).take (8 * n) := by
  induction n with
  | zero => simp [ents, extN, numB]
  | succ n ih =>
    rw [ents_succ, extN_app, numB_app, ih (by omega)]
    have e1 : numB (extN [((V4 x (4 + 8 * n) : Int), (V4 x (8 + 8 * n) : Int))]) = (x.drop (4 + 8 * n)).take 4 ++ (x.drop (8 + 8 * n)).take 4 := by
      unfold numB extN
      simp only [List.flatMap_cons, List.flatMap_nil, List.append_nil, List.cons_append, List.nil_append, Int.toNat_natCast]
      rw [digs_V4 hlt (by omega), digs_V4 hlt (by omega)]
    rw [e1]
    have h1 : (x.drop 4).drop (8 * n) = x.drop (4 + 8 * n) := by rw [List.drop_drop]
    have h2 : x.drop (8 + 8 * n) = (x.drop (4 + 8 * n)).drop 4 := by rw [List.drop_drop]; congr 1; omega
    rw [h2, ← List.take_add, ← h1, ← List.take_add]
    rfl
theorem numB_inj : ∀ (zs ys : List Int), zs.length = ys.length → (∀ z ∈ zs, 0 ≤ z ∧ z < 4294967296) → (∀ z ∈ ys, 0 ≤ z ∧ z < 4294967296) → numB zs = numB ys → zs = ys
  | [], [], _, _, _, _ => rfl
  | [], y :: ys, h, _, _, _ => by simp at h
  | z :: zs, [], h, _, _, _ => by simp at h
  | z :: zs, y :: ys, h, hz, hy, he => by
    have e1 : numB (z :: zs) = digs 4 true z.toNat ++ numB zs := rfl
    have e2 : numB (y :: ys) = digs 4 true y.toNat ++ numB ys := rfl
    rw [e1, e2] at he
    obtain ⟨h1, h2⟩ := List.append_inj he (by rw [digs_len, digs_len])
    have h3 : digs 4 false z.toNat = digs 4 false y.toNat := by
      rw [← digs_rev, ← digs_rev] at h1
      exact List.reverse_inj.mp h1
    have h4 := congrArg lval h3
    have b1 := hz z (by simp)
    have b2 := hy y (by simp)
    rw [lval_digs, lval_digs, Nat.mod_eq_of_lt (by omega), Nat.mod_eq_of_lt (by omega)] at h4
    obtain rfl : z = y := by omega
    rw [numB_inj zs ys (by simpa using h) (fun w hw => hz w (by simp [hw])) (fun w hw => hy w (by simp [hw])) h2]
theorem extN_inj : ∀ (a b : List Xt), a.length = b.length → extN a = extN b → a = b
  | [], [], _, _ => rfl
  | [], y :: ys, h, _ => by simp at h
  | z :: zs, [], h, _ => by simp at h
  | (z1, z2) :: zs, (y1, y2) :: ys, h, he => by
    have e1 : extN ((z1, z2) :: zs) = z1 :: z2 :: extN zs := rfl
    have e2 : extN ((y1, y2) :: ys) = y1 :: y2 :: extN ys := rfl
    rw [e1, e2] at he
    simp only [List.cons.injEq] at he
    obtain ⟨rfl, rfl, h3⟩ := he
    rw [extN_inj zs ys (by simpa using h) h3]
/-- Bytes are a good list's. -/
def LoadOk (x : List Nat) (l : List Xt) : Prop := goodP l 4194304 ∧ x = bytesL l
theorem numB_bytes (zs : List Int) : ∀ x ∈ numB zs, x < 256 := numB_lt zs
theorem ok_ents {x : List Nat} {l : List Xt} (h : LoadOk x l) : x.length = 4 + 8 * l.length ∧ l.length ≤ 65536 ∧ V4 x 0 = l.length ∧ ents x l.length = l := by
  obtain ⟨hg, rfl⟩ := h
  have hlen : (bytesL l).length = 4 + 8 * l.length := by rw [bytesL_len]; omega
  have hnb : l.length ≤ 65536 := hg.2.2.1
  have hlt : ∀ y ∈ bytesL l, y < 256 := numB_lt _
  have hb : bytesL l = digs 4 true l.length ++ numB (extN l) := rfl
  have hmay := ((goodP_iff l 4194304).mp hg).2.2.2.2
  refine ⟨hlen, hnb, ?_, ?_⟩
  · have h1 := digs_V4 hlt (p := 0) (by omega)
    rw [List.drop_zero, hb, List.take_left' (digs_len _ _ _), ← hb] at h1
    have h3 : digs 4 false (V4 (bytesL l) 0) = digs 4 false l.length := by
      rw [← digs_rev, ← digs_rev] at h1
      exact List.reverse_inj.mp h1
    have h4 := congrArg lval h3
    have := V4_lt hlt 0
    rw [lval_digs, lval_digs, Nat.mod_eq_of_lt (by omega), Nat.mod_eq_of_lt (by omega)] at h4
    exact h4
  · have h1 := numB_ents hlt l.length (by omega)
    have h2 : ((bytesL l).drop 4).take (8 * l.length) = numB (extN l) := by
      rw [hb, List.drop_left' (digs_len _ _ _), List.take_of_length_le (by rw [numB_len, extN_len]; omega)]
    rw [h2] at h1
    refine extN_inj _ _ (ents_len _ _) (numB_inj _ _ (by rw [extN_len, extN_len, ents_len]) ?_ ?_ h1)
    · intro z hz
      unfold extN at hz
      obtain ⟨e, he, hz⟩ := List.mem_flatMap.mp hz
      unfold ents at he
      obtain ⟨i, _, rfl⟩ := List.mem_map.mp he
      have a1 := V4_lt hlt (4 + 8 * i)
      have a2 := V4_lt hlt (8 + 8 * i)
      simp at hz
      rcases hz with rfl | rfl <;> omega
    · intro z hz
      unfold extN at hz
      obtain ⟨e, he, hz⟩ := List.mem_flatMap.mp hz
      have hm := (hmay e he).1
      unfold mayP at hm
      simp at hz
      rcases hz with rfl | rfl <;> omega
theorem ents_ok {x : List Nat} {n : Nat} (hlt : ∀ y ∈ x, y < 256) (hl : x.length = 4 + 8 * n) (h0 : V4 x 0 = n) : x = bytesL (ents x n) := by
  have h1 := numB_ents hlt n (by omega)
  have h2 := digs_V4 hlt (p := 0) (by omega)
  rw [h0, List.drop_zero] at h2
  have e : bytesL (ents x n) = digs 4 true n ++ numB (extN (ents x n)) := by unfold bytesL; rw [ents_len]; rfl
  have h3 : (x.drop 4).take (8 * n) = x.drop 4 := List.take_of_length_le (by rw [List.length_drop]; omega)
  rw [e, h1, h2, h3, List.take_append_drop]
/-- What Load tells. -/
def IsLoad (b : List Nat) (z : Int) (l : List Xt) : Prop :=
  (IsUn b z [] ∧ z ≠ 0 ∧ l = []) ∨ (∃ x, IsUn b 0 x ∧ (((∀ l', ¬ LoadOk x l') ∧ z = 5 ∧ l = []) ∨ (LoadOk x l ∧ z = 0)))
theorem LoadOk.uniq {x : List Nat} {a b : List Xt} (h1 : LoadOk x a) (h2 : LoadOk x b) : a = b := by
  obtain ⟨p1, _, _, p4⟩ := ok_ents h1
  obtain ⟨q1, _, _, q4⟩ := ok_ents h2
  rw [← p4, ← q4, show a.length = b.length by omega]
theorem IsLoad.uniq {b : List Nat} {z1 z2 : Int} {l1 l2 : List Xt} (h1 : IsLoad b z1 l1) (h2 : IsLoad b z2 l2) : z1 = z2 ∧ l1 = l2 := by
  rcases h1 with ⟨a1, a2, a3⟩ | ⟨x, a1, a2⟩ <;> rcases h2 with ⟨c1, c2, c3⟩ | ⟨y, c1, c2⟩
  · exact ⟨(a1.uniq c1).1, a3.trans c3.symm⟩
  · exact absurd (a1.uniq c1).1 a2
  · exact absurd (c1.uniq a1).1 c2
  · obtain rfl := (a1.uniq c1).2
    rcases a2 with ⟨p1, p2, p3⟩ | ⟨p1, p2⟩ <;> rcases c2 with ⟨q1, q2, q3⟩ | ⟨q1, q2⟩
    · exact ⟨p2.trans q2.symm, p3.trans q3.symm⟩
    · exact absurd q1 (p1 _)
    · exact absurd p1 (q1 _)
    · exact ⟨p2.trans q2.symm, p1.uniq q1⟩
theorem IsLoad.len {b : List Nat} {z : Int} {l : List Xt} (h : IsLoad b z l) : l.length ≤ 65536 := by
  rcases h with ⟨_, _, rfl⟩ | ⟨x, _, ⟨_, _, rfl⟩ | ⟨h, _⟩⟩
  · simp
  · simp
  · exact h.1.2.2.1
end Go.Proofs.YtkdfafaiabidgaaDoor.X5
