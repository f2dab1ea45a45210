/- Messages in memory, and their blocks in plain Lean. -/
import Derived.Test.YtcgapkepbnbabaaDoorOa
import Derived.Test.YtcgapkepbnbabaaDoorKd
import Derived.Test.YtcgapkepbnbabaaDoorKcd
namespace Go.Proofs.YtcgapkepbnbabaaDoor.X5
set_option linter.unusedVariables false
set_option linter.unusedSimpArgs false
open Go.RowKit Wd Ty9

/-- A message, or a block: a number and bytes. -/
abbrev Mg := Int × List Nat
/-- The messages l lie at A, all of it below B. -/
structure Ms (w : World) (B : Nat) (A : Option Addr) (n : Nat) (l : List Mg) : Prop where
  len : l.length = n
  at_ : 0 < n → ∃ b o, A = some ⟨b, o, none⟩ ∧ b < B ∧ ∀ i (h : i < l.length), ∃ Ai ci, w.cell? ⟨b, o + i * 2, none⟩ = some (.int .i64 l[i].1) ∧ w.cell? ⟨b, o + i * 2 + 1, none⟩ = some (.slice Ai l[i].2.length ci) ∧
    l[i].2.length ≤ ci ∧ l[i].2.length ≤ 140737488355328 ∧ Byt w B Ai l[i].2.length l[i].2
theorem Ms.later {w w' : World} {B n : Nat} {A : Option Addr} {l : List Mg} (h : Ms w B A n l) (hb : Below B w w') : Ms w' B A n l :=
  ⟨h.len, fun h0 => by
    obtain ⟨b, o, e, h1, h2⟩ := h.at_ h0
    refine ⟨b, o, e, h1, fun i hi => ?_⟩
    obtain ⟨Ai, ci, c0, c1, hc, hm, hy⟩ := h2 i hi
    exact ⟨Ai, ci, (hb.cell (p := ⟨b, o + i * 2, none⟩) h1).trans c0, (hb.cell (p := ⟨b, o + i * 2 + 1, none⟩) h1).trans c1, hc, hm, hy.later hb⟩⟩
theorem Ms.up {w : World} {B B' n : Nat} {A : Option Addr} {l : List Mg} (h : Ms w B A n l) (hB : B ≤ B') : Ms w B' A n l :=
  ⟨h.len, fun h0 => by
    obtain ⟨b, o, e, h1, h2⟩ := h.at_ h0
    refine ⟨b, o, e, by omega, fun i hi => ?_⟩
    obtain ⟨Ai, ci, c0, c1, hc, hm, hy⟩ := h2 i hi
    exact ⟨Ai, ci, c0, c1, hc, hm, hy.up hB⟩⟩
theorem Ms.nil (w : World) (B : Nat) (A : Option Addr) : Ms w B A 0 [] := ⟨rfl, fun h => absurd h (Nat.lt_irrefl _)⟩
theorem Ms.get {w : World} {B n : Nat} {A : Option Addr} {l : List Mg} (h : Ms w B A n l) {i : Nat} (hi : i < n) : ∃ b o x Ai ci, A = some ⟨b, o, none⟩ ∧ b < B ∧ l[i]? = some x ∧ w.cell? ⟨b, o + i * 2, none⟩ = some (.int .i64 x.1) ∧ w.cell? ⟨b, o + i * 2 + 1, none⟩ = some (.slice Ai x.2.length ci) ∧
    x.2.length ≤ ci ∧ x.2.length ≤ 140737488355328 ∧ Byt w B Ai x.2.length x.2 := by
  have hl := h.len
  obtain ⟨b, o, e, h1, h2⟩ := h.at_ (by omega)
  obtain ⟨Ai, ci, h3⟩ := h2 i (by omega)
  exact ⟨b, o, l[i]'(by omega), Ai, ci, e, h1, List.getElem?_eq_getElem _, h3⟩

/-- What is wrong with messages. -/
def okM (m : Mg) : Prop := 1 ≤ m.1 ∧ m.1 ≤ 255
def smallM (m : Mg) : Prop := m.2.length ≤ 65536
def IsMay (l : List Mg) (e : Int) : Prop :=
  (¬ (l.length ≤ 65536 ∧ ∀ m ∈ l, smallM m) ∧ e = 3) ∨ ((l.length ≤ 65536 ∧ ∀ m ∈ l, smallM m) ∧ ((¬ (∀ m ∈ l, okM m) ∧ e = 2) ∨ ((∀ m ∈ l, okM m) ∧ e = 0)))
theorem IsMay.uniq {l : List Mg} {e1 e2 : Int} (h1 : IsMay l e1) (h2 : IsMay l e2) : e1 = e2 := by
  rcases h1 with ⟨a, p⟩ | ⟨a, ⟨b, p⟩ | ⟨b, p⟩⟩ <;> rcases h2 with ⟨c, r⟩ | ⟨c, ⟨d, r⟩ | ⟨d, r⟩⟩
  · exact p.trans r.symm
  · exact absurd c a
  · exact absurd c a
  · exact absurd a c
  · exact p.trans r.symm
  · exact absurd d b
  · exact absurd a c
  · exact absurd b d
  · exact p.trans r.symm
theorem isMay_any (l : List Mg) : ∃ e, IsMay l e := by
  by_cases h : l.length ≤ 65536 ∧ ∀ m ∈ l, smallM m
  · by_cases h2 : ∀ m ∈ l, okM m
    · exact ⟨0, .inr ⟨h, .inr ⟨h2, rfl⟩⟩⟩
    · exact ⟨2, .inr ⟨h, .inl ⟨h2, rfl⟩⟩⟩
  · exact ⟨3, .inl ⟨h, rfl⟩⟩
/-- The stream, and its length. -/
def oneB (m : Mg) : List Nat := digs 4 true m.1.toNat ++ (digs 4 true m.2.length ++ m.2)
def streamM (l : List Mg) : List Nat := digs 4 true l.length ++ l.flatMap oneB
def sizeM (l : List Mg) : Nat := 4 + (l.map fun m => 8 + m.2.length).sum
theorem stream_len (l : List Mg) : (streamM l).length = sizeM l := by
  unfold streamM sizeM
  rw [List.length_append, digs_len]
  congr 1
  induction l with
  | nil => rfl
  | cons m l ih =>
    rw [List.flatMap_cons, List.length_append, ih, List.map_cons, List.sum_cons]
    unfold oneB
    rw [List.length_append, List.length_append, digs_len, digs_len]
    omega
theorem size_snoc (l : List Mg) (m : Mg) : sizeM (l ++ [m]) = sizeM l + (8 + m.2.length) := by
  unfold sizeM
  rw [List.map_append, List.sum_append]
  simp
  omega
theorem size_bound {l : List Mg} (h : ∀ m ∈ l, smallM m) : sizeM l ≤ 4 + l.length * 65544 := by
  unfold sizeM
  induction l with
  | nil => simp
  | cons m l ih =>
    have h1 := h m (by simp)
    have h2 := ih (fun x hx => h x (by simp [hx]))
    unfold smallM at h1
    rw [List.map_cons, List.sum_cons, List.length_cons]
    omega
theorem take_snoc {α : Type} {l : List α} {k : Nat} {x : α} (h : l[k]? = some x) : l.take (k + 1) = l.take k ++ [x] := by rw [List.take_add_one, h]; rfl

def wideP (x : Xt) : Prop := 16 < x.2 ∧ x.2 ≤ 4194304 ∧ 0 ≤ x.1 ∧ x.1 ≤ 4194304 - x.2
instance (x : Xt) : Decidable (wideP x) := by unfold wideP; infer_instance
theorem wideP_iff (x : Xt) : wideP x ↔ (mayP x ∧ 16 < x.2) := by unfold wideP mayP; omega
def capN (x : Xt) : Nat := (x.2 - 16).toNat
def sumCap (r : List Xt) : Nat := (r.map capN).sum
/-- A block's bytes. -/
def blockL (part : List Nat) (next : Xt) (size : Nat) : List Nat :=
  sealL (digs 4 true part.length ++ digs 4 true next.1.toNat ++ digs 4 true next.2.toNat ++ part ++ List.replicate (size - 16 - part.length) 0)
theorem block_len {part : List Nat} {next : Xt} {size : Nat} (h : part.length + 16 ≤ size) : (blockL part next size).length = size := by
  unfold blockL
  rw [seal_len]
  simp only [List.length_append, digs_len, List.length_replicate]
  omega
theorem sealL_lt {bs : List Nat} (h : ∀ x ∈ bs, x < 256) : ∀ x ∈ sealL bs, x < 256 := lt_app h (digs_lt _ _ _)
theorem block_lt {part : List Nat} {next : Xt} {size : Nat} (h : ∀ x ∈ part, x < 256) : ∀ x ∈ blockL part next size, x < 256 := by
  refine sealL_lt (lt_app (lt_app (lt_app (lt_app (digs_lt _ _ _) (digs_lt _ _ _)) (digs_lt _ _ _)) h) ?_)
  intro x hx
  have := (List.mem_replicate.mp hx).2
  omega
/-- The blocks of a stream. -/
def layL : List Nat → List Xt → List Mg
  | _, [] => []
  | s, x :: r => if s = [] then [] else (x.1, blockL (s.take (capN x)) (if s.length ≤ capN x then (0, 0) else r.headD (0, 0)) x.2.toNat) :: layL (s.drop (capN x)) r
def restAt (s : List Nat) (room : List Xt) (k : Nat) : List Nat := s.drop (sumCap (room.take k))
theorem restAt_zero (s : List Nat) (room : List Xt) : restAt s room 0 = s := by simp [restAt, sumCap]
theorem restAt_cons (s : List Nat) (x : Xt) (r : List Xt) (k : Nat) : restAt s (x :: r) (k + 1) = restAt (s.drop (capN x)) r k := by
  unfold restAt sumCap
  rw [List.take_succ_cons, List.map_cons, List.sum_cons, List.drop_drop]
theorem restAt_succ {s : List Nat} {room : List Xt} {k : Nat} {x : Xt} (h : room[k]? = some x) : restAt s room (k + 1) = (restAt s room k).drop (capN x) := by
  unfold restAt sumCap
  rw [take_snoc h, List.map_append, List.sum_append, List.drop_drop]
  simp
theorem rest_len (s : List Nat) (room : List Xt) (k : Nat) : (restAt s room k).length = s.length - sumCap (room.take k) := by unfold restAt; rw [List.length_drop]
theorem layL_get : ∀ (room : List Xt) (s : List Nat) (k : Nat) (x : Xt), room[k]? = some x → restAt s room k ≠ [] →
    (layL s room)[k]? = some (x.1, blockL ((restAt s room k).take (capN x)) (if (restAt s room k).length ≤ capN x then (0, 0) else room.getD (k + 1) (0, 0)) x.2.toNat)
  | [], _, _, _, h, _ => by simp at h
  | y :: r, s, 0, x, h, hne => by
    simp at h
    subst h
    rw [restAt_zero] at hne ⊢
    rw [layL, if_neg hne]
    cases r <;> rfl
  | y :: r, s, k + 1, x, h, hne => by
    have h2 : r[k]? = some x := by simpa using h
    rw [restAt_cons] at hne ⊢
    have hs : s ≠ [] := by
      intro e
      subst e
      simp [restAt] at hne
    rw [layL, if_neg hs, List.getElem?_cons_succ, layL_get r (s.drop (capN y)) k x h2 hne]
    simp
theorem layL_end : ∀ (room : List Xt) (s : List Nat) (k : Nat), restAt s room k = [] → (layL s room).length ≤ k
  | [], _, _, _ => by simp [layL]
  | y :: r, s, 0, h => by
    rw [restAt_zero] at h
    rw [layL, if_pos h]; simp
  | y :: r, s, k + 1, h => by
    rw [restAt_cons] at h
    rw [layL]
    split
    · simp
    · have := layL_end r (s.drop (capN y)) k h
      simp only [List.length_cons]
      omega
theorem sumCap_le {room : List Xt} (k : Nat) : sumCap (room.take k) ≤ sumCap room := by
  unfold sumCap
  conv => rhs; rw [← List.take_append_drop k room, List.map_append, List.sum_append]
  omega
/-- While bytes are left there is room. -/
theorem lay_room {s : List Nat} {room : List Xt} {k : Nat} (hs : s.length ≤ sumCap room) (hne : restAt s room k ≠ []) : k < room.length := by
  rcases Nat.lt_or_ge k room.length with h | h
  · exact h
  · exfalso
    apply hne
    apply List.eq_nil_of_length_eq_zero
    rw [rest_len, List.take_of_length_le h]
    omega
theorem sumCap_snoc {room : List Xt} {k : Nat} {x : Xt} (h : room[k]? = some x) : sumCap (room.take (k + 1)) = sumCap (room.take k) + capN x := by
  unfold sumCap
  rw [take_snoc h, List.map_append, List.sum_append]; simp
theorem sumCap_bound {room : List Xt} (h : ∀ x ∈ room, wideP x) : sumCap room ≤ room.length * 4194304 := by
  unfold sumCap
  induction room with
  | nil => simp
  | cons x r ih =>
    have h1 := h x (by simp)
    have h2 := ih (fun y hy => h y (by simp [hy]))
    unfold wideP at h1
    rw [List.map_cons, List.sum_cons, List.length_cons]
    have : capN x ≤ 4194304 := by unfold capN; omega
    omega
/-- What Lay tells. -/
def IsLay (l : List Mg) (room : List Xt) (e : Int) (out : List Mg) : Prop :=
  (∃ z, IsMay l z ∧ z ≠ 0 ∧ e = z ∧ out = []) ∨ (IsMay l 0 ∧ ((65536 < room.length ∧ e = 3 ∧ out = []) ∨ (room.length ≤ 65536 ∧
    ((¬ ((∀ x ∈ room, wideP x) ∧ noMeet room) ∧ e = 2 ∧ out = []) ∨ (((∀ x ∈ room, wideP x) ∧ noMeet room) ∧
      ((sumCap room < sizeM l ∧ e = 7 ∧ out = []) ∨ (sizeM l ≤ sumCap room ∧ e = 0 ∧ out = layL (streamM l) room)))))))
theorem IsLay.uniq {l : List Mg} {room : List Xt} {e1 e2 : Int} {o1 o2 : List Mg} (h1 : IsLay l room e1 o1) (h2 : IsLay l room e2 o2) : e1 = e2 ∧ o1 = o2 := by
  rcases h1 with ⟨z1, a1, a2, a3, a4⟩ | ⟨a1, a⟩ <;> rcases h2 with ⟨z2, b1, b2, b3, b4⟩ | ⟨b1, b⟩
  · obtain rfl := a1.uniq b1
    exact ⟨a3.trans b3.symm, a4.trans b4.symm⟩
  · exact absurd (a1.uniq b1) a2
  · exact absurd (b1.uniq a1) b2
  · rcases a with ⟨p1, p2, p3⟩ | ⟨p1, p⟩ <;> rcases b with ⟨q1, q2, q3⟩ | ⟨q1, q⟩
    · exact ⟨p2.trans q2.symm, p3.trans q3.symm⟩
    · omega
    · omega
    · rcases p with ⟨r1, r2, r3⟩ | ⟨r1, r⟩ <;> rcases q with ⟨t1, t2, t3⟩ | ⟨t1, t⟩
      · exact ⟨r2.trans t2.symm, r3.trans t3.symm⟩
      · exact absurd t1 r1
      · exact absurd r1 t1
      · rcases r with ⟨u1, u2, u3⟩ | ⟨u1, u2, u3⟩ <;> rcases t with ⟨v1, v2, v3⟩ | ⟨v1, v2, v3⟩
        · exact ⟨u2.trans v2.symm, u3.trans v3.symm⟩
        · omega
        · omega
        · exact ⟨u2.trans v2.symm, u3.trans v3.symm⟩
end Go.Proofs.YtcgapkepbnbabaaDoor.X5
