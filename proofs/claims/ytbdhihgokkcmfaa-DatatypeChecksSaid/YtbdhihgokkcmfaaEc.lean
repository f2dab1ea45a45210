/- The law's own: a deep copy of a type. -/
import Derived.Test.YtbdhihgokkcmfaaEe
import Derived.Test.YtbdhihgokkcmfaaAr
namespace Go.Proofs.Ytbdhihgokkcmfaa.Ty9
set_option linter.unusedVariables false
set_option linter.unusedSimpArgs false
open Go.RowKit Wd

theorem bytes24 : Try.prog.bytesOf 68 = 24 := by kernel_rfl
theorem sc_far (w W : World) (j k : Nat) (v : Value) : (W.setCell ⟨w.heap.size + 1 + 1, j, none⟩ v).cell? ⟨w.heap.size, k, none⟩ = W.cell? ⟨w.heap.size, k, none⟩ :=
  World.cell?_setCell_far _ _ _ _ (by show w.heap.size + 1 + 1 ≠ w.heap.size; omega)
/-- What own's boxes and copies are, behind region 2 and in its loops. -/
structure OwnSt (w wr : World) (X Y : Array Value) (dA2 nA2 : Option Addr) (dC2 nC2 : Nat) (ds : List Int) (ns : List (ByteArray × Int)) : Prop where
  be : Below w.heap.size w wr
  b1 : Bx wr w.heap.size 28 X
  b2 : Bx wr (w.heap.size + 1) 28 #[.int .i64 0, .int .i64 0, .bool false, .slice none 0 0, .slice none 0 0, .slice none 0 0, .slice none 0 0]
  b3 : Bx wr (w.heap.size + 1 + 1) 28 Y
  dc : ds.length ≤ dC2
  nc : ns.length ≤ nC2
  rd : 0 < ds.length → ∃ g, dA2 = some ⟨g, 0, none⟩ ∧ w.heap.size + 1 + 1 < g ∧ g < wr.heap.size ∧ ∀ (j : Nat) (u : Value), (nums ds)[j]? = some u → wr.cell? ⟨g, j, none⟩ = some u
  rn : 0 < ns.length → ∃ g, nA2 = some ⟨g, 0, none⟩ ∧ w.heap.size + 1 + 1 < g ∧ g < wr.heap.size ∧ ∀ (j : Nat) (u : Value), (mem2 ns)[j]? = some u → wr.cell? ⟨g, j, none⟩ = some u

theorem own_start {w W3 cur cur2 wD wN : World} {X : Array Value} {x0 x1 x2 x3 x4 x5 x6 : Value} {dA2 nA2 : Option Addr} {dC2 nC2 : Nat} {ds : List Int} {ns : List (ByteArray × Int)} (hsz : W3.heap.size = w.heap.size + 1 + 1 + 1) (hN : Below w.heap.size w W3)
    (h1 : Bx W3 w.heap.size 28 X) (h2 : Bx W3 (w.heap.size + 1) 28 #[.int .i64 0, .int .i64 0, .bool false, .slice none 0 0, .slice none 0 0, .slice none 0 0, .slice none 0 0]) (h3 : Bx W3 (w.heap.size + 1 + 1) 28 #[x0, x1, x2, x3, x4, x5, x6]) (hcd : Copied cur wD dA2 dC2 ds.length (nums ds)) (hc1 : W3.heap.size ≤ cur.heap.size)
    (hcn : Copied cur2 wN nA2 nC2 ns.length (mem2 ns)) (hc2 : W3.heap.size ≤ cur2.heap.size) (hdn : Below wD.heap.size wD wN) (hbn : Below W3.heap.size W3 wN) :
    OwnSt w ((((wN.setCell ⟨w.heap.size + 1 + 1, 3, none⟩ (.slice none 0 0)).setCell ⟨w.heap.size + 1 + 1, 4, none⟩ (.slice dA2 ds.length dC2)).setCell ⟨w.heap.size + 1 + 1, 5, none⟩ (.slice none 0 0)).setCell ⟨w.heap.size + 1 + 1, 6, none⟩ (.slice nA2 ns.length nC2))
      X #[x0, x1, x2, .slice none 0 0, .slice dA2 ds.length dC2, .slice none 0 0, .slice nA2 ns.length nC2] dA2 nA2 dC2 nC2 ds ns := by
  have hF : Below (w.heap.size + 1 + 1) wN ((((wN.setCell ⟨w.heap.size + 1 + 1, 3, none⟩ (.slice none 0 0)).setCell ⟨w.heap.size + 1 + 1, 4, none⟩ (.slice dA2 ds.length dC2)).setCell ⟨w.heap.size + 1 + 1, 5, none⟩ (.slice none 0 0)).setCell ⟨w.heap.size + 1 + 1, 6, none⟩ (.slice nA2 ns.length nC2)) :=
    by refine Below.setCell (Below.setCell (Below.setCell (Below.setCell (Below.refl _ _) ?_ _) ?_ _) ?_ _) ?_ _ <;> exact Nat.le_refl (w.heap.size + 1 + 1)
  have hfar : ∀ (g j : Nat), w.heap.size + 1 + 1 < g → ((((wN.setCell ⟨w.heap.size + 1 + 1, 3, none⟩ (.slice none 0 0)).setCell ⟨w.heap.size + 1 + 1, 4, none⟩ (.slice dA2 ds.length dC2)).setCell ⟨w.heap.size + 1 + 1, 5, none⟩ (.slice none 0 0)).setCell ⟨w.heap.size + 1 + 1, 6, none⟩ (.slice nA2 ns.length nC2)).cell? ⟨g, j, none⟩ = wN.cell? ⟨g, j, none⟩ := by
    intro g j hg
    rw [World.cell?_setCell_far _ _ _ _ (by show w.heap.size + 1 + 1 ≠ g; omega), World.cell?_setCell_far _ _ _ _ (by show w.heap.size + 1 + 1 ≠ g; omega), World.cell?_setCell_far _ _ _ _ (by show w.heap.size + 1 + 1 ≠ g; omega), World.cell?_setCell_far _ _ _ _ (by show w.heap.size + 1 + 1 ≠ g; omega)]
  have hs := hF.size
  have hb3 := h3.later hbn (by omega)
  have hY := (((hb3.set_ 3 (.slice none 0 0)).set_ 4 (.slice dA2 ds.length dC2)).set_ 5 (.slice none 0 0)).set_ 6 (.slice nA2 ns.length nC2)
  refine ⟨(hN.trans (hbn.mono (by omega))).trans (hF.mono (by omega)), (h1.later hbn (by omega)).later hF (by omega), (h2.later hbn (by omega)).later hF (by omega), hY, hcd.cap, hcn.cap, fun hm => ?_, fun hm => ?_⟩
  · obtain ⟨g, rfl, hg1, hg2, hc⟩ := hcd.row hm
    have := hdn.size
    exact ⟨g, rfl, by omega, by omega, fun j u hu => (hfar g j (by omega)).trans ((hdn.cell (p := ⟨g, j, none⟩) hg2).trans (hc j u hu))⟩
  · obtain ⟨g, rfl, hg1, hg2, hc⟩ := hcn.row hm
    exact ⟨g, rfl, by omega, by omega, fun j u hu => (hfar g j (by omega)).trans (hc j u hu)⟩

/-- The blocks of the two copied rows. -/
def S0 (dA2 nA2 : Option Addr) (ds : List Int) (ns : List (ByteArray × Int)) (g : Nat) : Prop := (0 < ds.length ∧ dA2 = some ⟨g, 0, none⟩) ∨ (0 < ns.length ∧ nA2 = some ⟨g, 0, none⟩)
def E0 (dA2 nA2 : Option Addr) (ds : List Int) (ns : List (ByteArray × Int)) (w' : World) : Prop := RowAt (S0 dA2 nA2 ds ns) dA2 (nums ds) w' ∧ RowAt (S0 dA2 nA2 ds ns) nA2 (mem2 ns) w'
theorem OwnSt.lp {w wr : World} {X Y : Array Value} {dA2 nA2 : Option Addr} {dC2 nC2 : Nat} {ds : List Int} {ns : List (ByteArray × Int)} (h : OwnSt w wr X Y dA2 nA2 dC2 nC2 ds ns) (e : TypeId) (size : Nat) (hd : Nat → List Value) (ts : List Ty) :
    Lp w wr X Y (S0 dA2 nA2 ds ns) (E0 dA2 nA2 ds ns) e size (.slice none 0 0) hd ts [] := by
  refine ⟨h.be, h.b1, h.b2, h.b3, fun g hg => ?_, fun w' hw => ⟨fun h0 => ?_, fun h0 => ?_⟩, by simpa using World.ownsRow_nil wr (w.heap.size + 1 + 1 + 1) e size, fun g _ e => by simp [Value.ownBlock] at e, fun i _ hi' => absurd hi' (Nat.not_lt_zero _)⟩
  · rcases hg with ⟨h0, e⟩ | ⟨h0, e⟩
    · obtain ⟨g', e', q1, q2, _⟩ := h.rd h0
      rw [e'] at e
      have : g' = g := by injection Option.some.inj e
      omega
    · obtain ⟨g', e', q1, q2, _⟩ := h.rn h0
      rw [e'] at e
      have : g' = g := by injection Option.some.inj e
      omega
  · obtain ⟨g, e, q1, q2, q3⟩ := h.rd (by rw [nums_len] at h0; omega)
    have hs : S0 dA2 nA2 ds ns g := .inl ⟨by rw [nums_len] at h0; omega, e⟩
    exact ⟨g, e, hs, fun j u hu => (World.cell?_of_block (w := wr) (a := ⟨g, j, none⟩) (hw g hs)).trans (q3 j u hu)⟩
  · obtain ⟨g, e, q1, q2, q3⟩ := h.rn (by rw [mem2_len] at h0; omega)
    have hs : S0 dA2 nA2 ds ns g := .inr ⟨by rw [mem2_len] at h0; omega, e⟩
    exact ⟨g, e, hs, fun j u hu => (World.cell?_of_block (w := wr) (a := ⟨g, j, none⟩) (hw g hs)).trans (q3 j u hu)⟩

theorem bytesF9 : Try.prog.bytesOf 66 = 144 := by kernel_rfl
theorem bytesT7 : Try.prog.bytesOf 28 = 120 := by kernel_rfl
theorem set7 {r : Option Nat} {w w2 : World} {g : Nat} {t : TypeId} {n p x0 x1 x2 x3 x4 x5 x6 : Value} (h : Bx w2 g t #[n, p, x0, x1, x2, x3, x4, x5, x6]) (hG : Gr g r w w2) (u0 u1 u2 u3 u4 u5 u6 : Value) :
    ∃ wq, (((((((w2.setCell ⟨g, 2, none⟩ u0).setCell ⟨g, 3, none⟩ u1).setCell ⟨g, 4, none⟩ u2).setCell ⟨g, 5, none⟩ u3).setCell ⟨g, 6, none⟩ u4).setCell ⟨g, 7, none⟩ u5).setCell ⟨g, 8, none⟩ u6) = wq ∧
      Bx wq g t #[n, p, u0, u1, u2, u3, u4, u5, u6] ∧ Gr g r w wq ∧ wq.heap.size = w2.heap.size ∧ ∀ k, k ≠ g → wq.heap[k]? = w2.heap[k]? := by
  refine ⟨_, rfl, ?_, ?_, ?_, fun k hk => ?_⟩
  · have h9 := ((((((h.set_ 2 u0).set_ 3 u1).set_ 4 u2).set_ 5 u3).set_ 6 u4).set_ 7 u5).set_ 8 u6
    simpa using h9
  · exact ((((((hG.set 2 u0).set 3 u1).set 4 u2).set 5 u3).set 6 u4).set 7 u5).set 8 u6
  · simp [World.setCell]
  · rw [Below.heap_setCell _ _ _ _ hk, Below.heap_setCell _ _ _ _ hk, Below.heap_setCell _ _ _ _ hk, Below.heap_setCell _ _ _ _ hk, Below.heap_setCell _ _ _ _ hk, Below.heap_setCell _ _ _ _ hk, Below.heap_setCell _ _ _ _ hk]
theorem field_info : (Try.prog.info? 66).map (fun i => (i.zero, i.size, i.bytes)) = some (some (.agg #[.string ⟨#[]⟩, .int .i64 0, .int .i64 0, .int .i64 0, .bool false, .slice none 0 0, .slice none 0 0, .slice none 0 0, .slice none 0 0]), 9, 144) := by kernel_rfl
theorem type_info : (Try.prog.info? 28).map (fun i => (i.zero, i.size, i.bytes)) = some (some (.agg #[.int .i64 0, .int .i64 0, .bool false, .slice none 0 0, .slice none 0 0, .slice none 0 0, .slice none 0 0]), 7, 120) := by kernel_rfl

end Go.Proofs.Ytbdhihgokkcmfaa.Ty9
