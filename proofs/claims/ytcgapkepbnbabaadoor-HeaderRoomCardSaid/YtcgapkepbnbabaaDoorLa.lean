/- Messages: plain, and rows of them in memory. -/
import Derived.Test.YtcgapkepbnbabaaDoorOe
import Derived.Test.YtcgapkepbnbabaaDoorKd
namespace Go.Proofs.YtcgapkepbnbabaaDoor.X5
set_option linter.unusedVariables false
set_option linter.unusedSimpArgs false
open Go.RowKit Wd Ty9

/-- A message, or a block: a number and bytes. -/
abbrev Mg := Int × List Nat
/-- The messages l lie at A, all of it below B. -/
structure Ms (w : World) (B : Nat) (A : Option Addr) (n : Nat) (l : List Mg) : Prop where
  len : l.length = n
  at_ : 0 < n → ∃ b o, A = some ⟨b, o, none⟩ ∧ b < B ∧ ∀ i (h : i < l.length), ∃ Ai ci, w.cell? ⟨b, o + i * 2, none⟩ = some (.int .i64 l[i].1) ∧ w.cell? ⟨b, o + i * 2 + 1, none⟩ = some (.slice Ai l[i].2.length ci) ∧
    l[i].2.length ≤ ci ∧ l[i].2.length ≤ 140737488355328 ∧ Byt w B Ai l[i].2.length l[i].2
theorem Ms.later {w w' : World} {B n : Nat} {A : Option Addr} {l : List Mg} (h : Ms w B A n l) (hb : Below B w w') : Ms w' B A n l :=
  ⟨h.len, fun h0 => by
    obtain ⟨b, o, e, h1, h2⟩ := h.at_ h0
    refine ⟨b, o, e, h1, fun i hi => ?_⟩
    obtain ⟨Ai, ci, c0, c1, hc, hm, hy⟩ := h2 i hi
    exact ⟨Ai, ci, (hb.cell (p := ⟨b, o + i * 2, none⟩) h1).trans c0, (hb.cell (p := ⟨b, o + i * 2 + 1, none⟩) h1).trans c1, hc, hm, hy.later hb⟩⟩
theorem Ms.up {w : World} {B B' n : Nat} {A : Option Addr} {l : List Mg} (h : Ms w B A n l) (hB : B ≤ B') : Ms w B' A n l :=
  ⟨h.len, fun h0 => by
    obtain ⟨b, o, e, h1, h2⟩ := h.at_ h0
    refine ⟨b, o, e, by omega, fun i hi => ?_⟩
    obtain ⟨Ai, ci, c0, c1, hc, hm, hy⟩ := h2 i hi
    exact ⟨Ai, ci, c0, c1, hc, hm, hy.up hB⟩⟩
theorem Ms.nil (w : World) (B : Nat) (A : Option Addr) : Ms w B A 0 [] := ⟨rfl, fun h => absurd h (Nat.lt_irrefl _)⟩
theorem Ms.get {w : World} {B n : Nat} {A : Option Addr} {l : List Mg} (h : Ms w B A n l) {i : Nat} (hi : i < n) : ∃ b o x Ai ci, A = some ⟨b, o, none⟩ ∧ b < B ∧ l[i]? = some x ∧ w.cell? ⟨b, o + i * 2, none⟩ = some (.int .i64 x.1) ∧ w.cell? ⟨b, o + i * 2 + 1, none⟩ = some (.slice Ai x.2.length ci) ∧
    x.2.length ≤ ci ∧ x.2.length ≤ 140737488355328 ∧ Byt w B Ai x.2.length x.2 := by
  have hl := h.len
  obtain ⟨b, o, e, h1, h2⟩ := h.at_ (by omega)
  obtain ⟨Ai, ci, h3⟩ := h2 i (by omega)
  exact ⟨b, o, l[i]'(by omega), Ai, ci, e, h1, List.getElem?_eq_getElem _, h3⟩

/-- What is wrong with messages. -/
def okM (m : Mg) : Prop := 1 ≤ m.1 ∧ m.1 ≤ 255
def smallM (m : Mg) : Prop := m.2.length ≤ 65536
def IsMay (l : List Mg) (e : Int) : Prop :=
  (¬ (l.length ≤ 65536 ∧ ∀ m ∈ l, smallM m) ∧ e = 3) ∨ ((l.length ≤ 65536 ∧ ∀ m ∈ l, smallM m) ∧ ((¬ (∀ m ∈ l, okM m) ∧ e = 2) ∨ ((∀ m ∈ l, okM m) ∧ e = 0)))
theorem IsMay.uniq {l : List Mg} {e1 e2 : Int} (h1 : IsMay l e1) (h2 : IsMay l e2) : e1 = e2 := by
  rcases h1 with ⟨a, p⟩ | ⟨a, ⟨b, p⟩ | ⟨b, p⟩⟩ <;> rcases h2 with ⟨c, r⟩ | ⟨c, ⟨d, r⟩ | ⟨d, r⟩⟩
  · exact p.trans r.symm
  · exact absurd c a
  · exact absurd c a
  · exact absurd a c
  · exact p.trans r.symm
  · exact absurd d b
  · exact absurd a c
  · exact absurd b d
  · exact p.trans r.symm
theorem isMay_any (l : List Mg) : ∃ e, IsMay l e := by
  by_cases h : l.length ≤ 65536 ∧ ∀ m ∈ l, smallM m
  · by_cases h2 : ∀ m ∈ l, okM m
    · exact ⟨0, .inr ⟨h, .inr ⟨h2, rfl⟩⟩⟩
    · exact ⟨2, .inr ⟨h, .inl ⟨h2, rfl⟩⟩⟩
  · exact ⟨3, .inl ⟨h, rfl⟩⟩
/-- The stream, and its length. -/
def oneB (m : Mg) : List Nat := digs 4 true m.1.toNat ++ (digs 4 true m.2.length ++ m.2)
def streamM (l : List Mg) : List Nat := digs 4 true l.length ++ l.flatMap oneB
def sizeM (l : List Mg) : Nat := 4 + (l.map fun m => 8 + m.2.length).sum
theorem stream_len (l : List Mg) : (streamM l).length = sizeM l := by
  unfold streamM sizeM
  rw [List.length_append, digs_len]
  congr 1
  induction l with
  | nil => rfl
  | cons m l ih =>
    rw [List.flatMap_cons, List.length_append, ih, List.map_cons, List.sum_cons]
    unfold oneB
    rw [List.length_append, List.length_append, digs_len, digs_len]
    omega
theorem size_snoc (l : List Mg) (m : Mg) : sizeM (l ++ [m]) = sizeM l + (8 + m.2.length) := by
  unfold sizeM
  rw [List.map_append, List.sum_append]
  simp
  omega
theorem size_bound {l : List Mg} (h : ∀ m ∈ l, smallM m) : sizeM l ≤ 4 + l.length * 65544 := by
  unfold sizeM
  induction l with
  | nil => simp
  | cons m l ih =>
    have h1 := h m (by simp)
    have h2 := ih (fun x hx => h x (by simp [hx]))
    unfold smallM at h1
    rw [List.map_cons, List.sum_cons, List.length_cons]
    omega
theorem take_snoc {α : Type} {l : List α} {k : Nat} {x : α} (h : l[k]? = some x) : l.take (k + 1) = l.take k ++ [x] := by rw [List.take_add_one, h]; rfl
end Go.Proofs.YtcgapkepbnbabaaDoor.X5
