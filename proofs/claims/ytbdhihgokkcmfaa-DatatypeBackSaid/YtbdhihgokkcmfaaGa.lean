/- A type in one order; a type in memory of its own, told by a stretch of blocks; blocks that turn. -/
import Derived.Test.YtbdhihgokkcmfaaEb
import Derived.Laws.IdiomCopy
namespace Go.Proofs.Ytbdhihgokkcmfaa.Ty9
set_option linter.unusedVariables false
set_option linter.unusedSimpArgs false
open Go.RowKit Wd

mutual
def tn (bg : Bool) : Ty → Ty
  | .mk c w b fs ds bs ns => .mk c w (if c ≤ 4 then bg else b) (tnf bg fs) ds (tnb bg bs) ns
def tnf (bg : Bool) : List Fd → List Fd
  | [] => []
  | .mk n p t :: fs => .mk n p (tn bg t) :: tnf bg fs
def tnb (bg : Bool) : List Ty → List Ty
  | [] => []
  | t :: ts => tn bg t :: tnb bg ts
end
def tnF (bg : Bool) (f : Fd) : Fd := .mk f.name f.pos (tn bg f.ty)
theorem tnf_map (bg : Bool) : ∀ fs : List Fd, tnf bg fs = fs.map (tnF bg)
  | [] => rfl
  | .mk n p t :: fs => by rw [tnf, tnf_map bg fs]; rfl
theorem tnb_map (bg : Bool) : ∀ bs : List Ty, tnb bg bs = bs.map (tn bg)
  | [] => rfl
  | t :: ts => by rw [tnb, tnb_map bg ts]; rfl
theorem tn_mk (bg : Bool) (c w : Int) (b : Bool) (fs : List Fd) (ds : List Int) (bs : List Ty) (ns : List (ByteArray × Int)) :
    tn bg (.mk c w b fs ds bs ns) = .mk c w (if c ≤ 4 then bg else b) (fs.map (tnF bg)) ds (bs.map (tn bg)) ns := by rw [tn, tnf_map, tnb_map]

/-- The value v is the type t; its lists lie in blocks of [lo, hi), each in one of its own, those of a part behind those of the parts ahead of it. -/
inductive Seg (w : World) : Nat → Nat → Ty → Value → Prop where
  | mk (lo hi p1 p2 p3 p4 : Nat) (mf mb : Nat → Nat) (c wd : Int) (b : Bool) (fs : List Fd) (ds : List Int) (bs : List Ty) (ns : List (ByteArray × Int))
      (fA dA bA nA : Option Addr) (fC dC bC nC : Nat) (fb db bb nb : Nat) (fv bv : Nat → Nat → Value)
      (hf : fs.length ≤ 140737488355328) (hd : ds.length ≤ 140737488355328) (hb : bs.length ≤ 140737488355328) (hn : ns.length ≤ 140737488355328)
      (hfz : ∀ f ∈ fs, f.name.size ≤ 140737488355328) (hnz : ∀ x ∈ ns, x.1.size ≤ 140737488355328) (hnr : ∀ x ∈ ns, -9223372036854775808 ≤ x.2 ∧ x.2 ≤ 9223372036854775807) (hcap : fs.length ≤ fC ∧ ds.length ≤ dC ∧ bs.length ≤ bC ∧ ns.length ≤ nC)
      (hfA : 0 < fs.length → fA = some ⟨fb, 0, none⟩ ∧ lo ≤ fb ∧ fb < p1) (hdA : 0 < ds.length → dA = some ⟨db, 0, none⟩ ∧ p1 ≤ db ∧ db < p2) (hbA : 0 < bs.length → bA = some ⟨bb, 0, none⟩ ∧ p2 ≤ bb ∧ bb < p3) (hnA : 0 < ns.length → nA = some ⟨nb, 0, none⟩ ∧ p3 ≤ nb ∧ nb < p4)
      (hf0 : ∀ i (h : i < fs.length), w.cell? ⟨fb, i * 9, none⟩ = some (.string fs[i].name))
      (hf1 : ∀ i (h : i < fs.length), w.cell? ⟨fb, i * 9 + 1, none⟩ = some (.int .i64 fs[i].pos))
      (hf2 : ∀ i, i < fs.length → ∀ k, k < 7 → w.cell? ⟨fb, i * 9 + 2 + k, none⟩ = some (fv i k))
      (hft : ∀ i (h : i < fs.length), Seg w (mf i) (mf (i + 1)) fs[i].ty (.agg #[fv i 0, fv i 1, fv i 2, fv i 3, fv i 4, fv i 5, fv i 6]))
      (hd0 : ∀ i (h : i < ds.length), w.cell? ⟨db, i, none⟩ = some (.int .i64 ds[i]))
      (hb0 : ∀ i, i < bs.length → ∀ k, k < 7 → w.cell? ⟨bb, i * 7 + k, none⟩ = some (bv i k))
      (hbt : ∀ i (h : i < bs.length), Seg w (mb i) (mb (i + 1)) bs[i] (.agg #[bv i 0, bv i 1, bv i 2, bv i 3, bv i 4, bv i 5, bv i 6]))
      (hn0 : ∀ i (h : i < ns.length), w.cell? ⟨nb, i * 2, none⟩ = some (.string ns[i].1))
      (hn1 : ∀ i (h : i < ns.length), w.cell? ⟨nb, i * 2 + 1, none⟩ = some (.int .i64 ns[i].2))
      (zf : 0 < fs.length → ∀ j, w.frozen? ⟨fb, j, none⟩ = false) (zd : 0 < ds.length → ∀ j, w.frozen? ⟨db, j, none⟩ = false) (zb : 0 < bs.length → ∀ j, w.frozen? ⟨bb, j, none⟩ = false) (zn : 0 < ns.length → ∀ j, w.frozen? ⟨nb, j, none⟩ = false)
      (o1 : lo ≤ p1) (o2 : p1 ≤ p2) (o3 : p2 ≤ p3) (o4 : p3 ≤ p4) (o5 : p4 ≤ mf 0) (of : ∀ i, i < fs.length → mf i ≤ mf (i + 1)) (o6 : mf fs.length ≤ mb 0) (ob : ∀ i, i < bs.length → mb i ≤ mb (i + 1)) (o7 : mb bs.length ≤ hi) :
      Seg w lo hi (.mk c wd b fs ds bs ns) (.agg #[.int .i64 c, .int .i64 wd, .bool b, .slice fA fs.length fC, .slice dA ds.length dC, .slice bA bs.length bC, .slice nA ns.length nC])

theorem up_to {m : Nat → Nat} {n : Nat} (h : ∀ i, i < n → m i ≤ m (i + 1)) : ∀ (i j : Nat), i ≤ j → j ≤ n → m i ≤ m j := by
  intro i j
  induction j with
  | zero => intro h1 _; rw [Nat.le_zero.mp h1]; exact Nat.le_refl _
  | succ j ih =>
    intro h1 h2
    rcases Nat.lt_or_ge i (j + 1) with h3 | h3
    · exact Nat.le_trans (ih (by omega) (by omega)) (h j (by omega))
    · rw [show i = j + 1 by omega]; exact Nat.le_refl _

theorem Seg.keep {w : World} {lo hi : Nat} {t : Ty} {v : Value} (h : Seg w lo hi t v) : ∀ {w2 : World}, (∀ g, lo ≤ g → g < hi → w2.heap[g]? = w.heap[g]?) → Seg w2 lo hi t v := by
  induction h with
  | mk lo hi p1 p2 p3 p4 mf mb c wd b fs ds bs ns fA dA bA nA fC dC bC nC fb db bb nb fv bv hf hd hb hn hfz hnz hnr hcap hfA hdA hbA hnA hf0 hf1 hf2 hft hd0 hb0 hbt hn0 hn1 zf zd zb zn o1 o2 o3 o4 o5 of o6 ob o7 ihf ihb =>
    intro w2 hk
    have m1 := up_to of 0 fs.length (Nat.zero_le _) (Nat.le_refl _)
    have m2 := up_to ob 0 bs.length (Nat.zero_le _) (Nat.le_refl _)
    have kf : 0 < fs.length → w2.heap[fb]? = w.heap[fb]? := fun h => hk fb (by have := hfA h; omega) (by have := hfA h; omega)
    have kd : 0 < ds.length → w2.heap[db]? = w.heap[db]? := fun h => hk db (by have := hdA h; omega) (by have := hdA h; omega)
    have kb : 0 < bs.length → w2.heap[bb]? = w.heap[bb]? := fun h => hk bb (by have := hbA h; omega) (by have := hbA h; omega)
    have kn : 0 < ns.length → w2.heap[nb]? = w.heap[nb]? := fun h => hk nb (by have := hnA h; omega) (by have := hnA h; omega)
    refine .mk lo hi p1 p2 p3 p4 mf mb c wd b fs ds bs ns fA dA bA nA fC dC bC nC fb db bb nb fv bv hf hd hb hn hfz hnz hnr hcap hfA hdA hbA hnA
      (fun i h => (World.cell?_of_block (w := w) (a := ⟨fb, _, none⟩) (kf (by omega))).trans (hf0 i h)) (fun i h => (World.cell?_of_block (w := w) (a := ⟨fb, _, none⟩) (kf (by omega))).trans (hf1 i h)) (fun i h k hk' => (World.cell?_of_block (w := w) (a := ⟨fb, _, none⟩) (kf (by omega))).trans (hf2 i h k hk'))
      (fun i h => ihf i h fun g h1 h2 => hk g (by have := up_to of 0 i (Nat.zero_le _) (by omega); omega) (by have := up_to of (i + 1) fs.length (by omega) (Nat.le_refl _); omega))
      (fun i h => (World.cell?_of_block (w := w) (a := ⟨db, _, none⟩) (kd (by omega))).trans (hd0 i h)) (fun i h k hk' => (World.cell?_of_block (w := w) (a := ⟨bb, _, none⟩) (kb (by omega))).trans (hb0 i h k hk'))
      (fun i h => ihb i h fun g h1 h2 => hk g (by have := up_to ob 0 i (Nat.zero_le _) (by omega); omega) (by have := up_to ob (i + 1) bs.length (by omega) (Nat.le_refl _); omega))
      (fun i h => (World.cell?_of_block (w := w) (a := ⟨nb, _, none⟩) (kn (by omega))).trans (hn0 i h)) (fun i h => (World.cell?_of_block (w := w) (a := ⟨nb, _, none⟩) (kn (by omega))).trans (hn1 i h))
      (fun h j => (World.frozen?_of_block (w := w) (a := ⟨fb, j, none⟩) (kf h)).trans (zf h j)) (fun h j => (World.frozen?_of_block (w := w) (a := ⟨db, j, none⟩) (kd h)).trans (zd h j)) (fun h j => (World.frozen?_of_block (w := w) (a := ⟨bb, j, none⟩) (kb h)).trans (zb h j)) (fun h j => (World.frozen?_of_block (w := w) (a := ⟨nb, j, none⟩) (kn h)).trans (zn h j))
      o1 o2 o3 o4 o5 of o6 ob o7
theorem Seg.le {w : World} {lo hi : Nat} {t : Ty} {v : Value} (h : Seg w lo hi t v) : lo ≤ hi := by
  cases h with
  | mk _ _ p1 p2 p3 p4 mf mb c wd b fs ds bs ns fA dA bA nA fC dC bC nC fb db bb nb fv bv hf hd hb hn hfz hnz hnr hcap hfA hdA hbA hnA hf0 hf1 hf2 hft hd0 hb0 hbt hn0 hn1 zf zd zb zn o1 o2 o3 o4 o5 of o6 ob o7 =>
    have m1 := up_to of 0 fs.length (Nat.zero_le _) (Nat.le_refl _)
    have m2 := up_to ob 0 bs.length (Nat.zero_le _) (Nat.le_refl _)
    omega
theorem Seg.widen {w : World} {lo hi lo' hi' : Nat} {t : Ty} {v : Value} (h : Seg w lo hi t v) (h1 : lo' ≤ lo) (h2 : hi ≤ hi') : Seg w lo' hi' t v := by
  cases h with
  | mk _ _ p1 p2 p3 p4 mf mb c wd b fs ds bs ns fA dA bA nA fC dC bC nC fb db bb nb fv bv hf hd hb hn hfz hnz hnr hcap hfA hdA hbA hnA hf0 hf1 hf2 hft hd0 hb0 hbt hn0 hn1 zf zd zb zn o1 o2 o3 o4 o5 of o6 ob o7 =>
    exact .mk lo' hi' p1 p2 p3 p4 mf mb c wd b fs ds bs ns fA dA bA nA fC dC bC nC fb db bb nb fv bv hf hd hb hn hfz hnz hnr hcap (fun h => ⟨(hfA h).1, by have := (hfA h).2.1; omega, (hfA h).2.2⟩) hdA hbA hnA hf0 hf1 hf2 hft hd0 hb0 hbt hn0 hn1 zf zd zb zn (by omega) o2 o3 o4 o5 of o6 ob (by omega)
theorem Seg.ty {w : World} {lo hi : Nat} {t : Ty} {v : Value} (h : Seg w lo hi t v) : ∀ {B : Nat}, hi ≤ B → TyAt w B t v := by
  induction h with
  | mk lo hi p1 p2 p3 p4 mf mb c wd b fs ds bs ns fA dA bA nA fC dC bC nC fb db bb nb fv bv hf hd hb hn hfz hnz hnr hcap hfA hdA hbA hnA hf0 hf1 hf2 hft hd0 hb0 hbt hn0 hn1 zf zd zb zn o1 o2 o3 o4 o5 of o6 ob o7 ihf ihb =>
    intro B hB
    have m1 := up_to of 0 fs.length (Nat.zero_le _) (Nat.le_refl _)
    have m2 := up_to ob 0 bs.length (Nat.zero_le _) (Nat.le_refl _)
    exact .mk c wd b fs ds bs ns fA dA bA nA fC dC bC nC fb 0 db 0 bb 0 nb 0 fv bv hf hd hb hn hfz hnz hnr hcap (fun h => ⟨(hfA h).1, by have := hfA h; omega⟩) (fun h => ⟨(hdA h).1, by have := hdA h; omega⟩) (fun h => ⟨(hbA h).1, by have := hbA h; omega⟩) (fun h => ⟨(hnA h).1, by have := hnA h; omega⟩)
      (fun i h => by rw [Nat.zero_add]; exact hf0 i h) (fun i h => by rw [Nat.zero_add]; exact hf1 i h) (fun i h k hk => by rw [Nat.zero_add]; exact hf2 i h k hk) (fun i h => ihf i h (by have := up_to of (i + 1) fs.length (by omega) (Nat.le_refl _); omega))
      (fun i h => by rw [Nat.zero_add]; exact hd0 i h) (fun i h k hk => by rw [Nat.zero_add]; exact hb0 i h k hk) (fun i h => ihb i h (by have := up_to ob (i + 1) bs.length (by omega) (Nat.le_refl _); omega)) (fun i h => by rw [Nat.zero_add]; exact hn0 i h) (fun i h => by rw [Nat.zero_add]; exact hn1 i h)

theorem setCells_keep (b : Nat) : ∀ (vs : List Value) (o : Nat) (w : World), (w.setCells b o vs).heap.size = w.heap.size ∧ (w.setCells b o vs).os = w.os ∧ (w.setCells b o vs).tape = w.tape ∧ (w.setCells b o vs).output = w.output ∧ ∀ k, k ≠ b → (w.setCells b o vs).heap[k]? = w.heap[k]?
  | [], _, _ => ⟨rfl, rfl, rfl, rfl, fun _ _ => rfl⟩
  | v :: r, o, w => by
    obtain ⟨h1, h2, h3, h4, h5⟩ := setCells_keep b r (o + 1) (w.setCell ⟨b, o, none⟩ v)
    rw [World.setCells]
    refine ⟨h1.trans (by simp [World.setCell]), h2, h3, h4, fun k hk => (h5 k hk).trans (Below.heap_setCell _ _ _ _ hk)⟩
/-- Seven cells of a row are written over. -/
theorem setr {w2 : World} {g o : Nat} (u0 u1 u2 u3 u4 u5 u6 : Value) (hc : ∀ l, l < 7 → (w2.cell? ⟨g, o + l, none⟩).isSome = true) :
    ∃ wq, (((((((w2.setCell ⟨g, o, none⟩ u0).setCell ⟨g, o + 1, none⟩ u1).setCell ⟨g, o + 2, none⟩ u2).setCell ⟨g, o + 3, none⟩ u3).setCell ⟨g, o + 4, none⟩ u4).setCell ⟨g, o + 5, none⟩ u5).setCell ⟨g, o + 6, none⟩ u6) = wq ∧
      (∀ l (h : l < 7), wq.cell? ⟨g, o + l, none⟩ = some ([u0, u1, u2, u3, u4, u5, u6][l])) ∧ (∀ j, (j < o ∨ o + 7 ≤ j) → wq.cell? ⟨g, j, none⟩ = w2.cell? ⟨g, j, none⟩) ∧ (∀ k, k ≠ g → wq.heap[k]? = w2.heap[k]?) ∧ wq.heap.size = w2.heap.size ∧ (∀ a, wq.frozen? a = w2.frozen? a) ∧ wq.os = w2.os ∧ wq.tape = w2.tape ∧ wq.output = w2.output := by
  have e : w2.setCells g o [u0, u1, u2, u3, u4, u5, u6] = (((((((w2.setCell ⟨g, o, none⟩ u0).setCell ⟨g, o + 1, none⟩ u1).setCell ⟨g, o + 2, none⟩ u2).setCell ⟨g, o + 3, none⟩ u3).setCell ⟨g, o + 4, none⟩ u4).setCell ⟨g, o + 5, none⟩ u5).setCell ⟨g, o + 6, none⟩ u6) := by
    simp only [World.setCells]
  refine ⟨w2.setCells g o [u0, u1, u2, u3, u4, u5, u6], e.symm, fun l hl => ?_, fun j hj => ?_, fun k hk => ?_, ?_, fun a => ?_, ?_, ?_, ?_⟩
  · exact World.cell?_setCells_in g [u0, u1, u2, u3, u4, u5, u6] o w2 (fun j hj => hc j hj) l hl
  · exact World.cell?_setCells_out g [u0, u1, u2, u3, u4, u5, u6] o w2 ⟨g, j, none⟩ (fun _ _ => hj)
  · exact (setCells_keep g _ o w2).2.2.2.2 k hk
  · exact (setCells_keep g _ o w2).1
  · exact World.frozen?_setCells g _ o w2 a
  · exact (setCells_keep g _ o w2).2.1
  · exact (setCells_keep g _ o w2).2.2.1
  · exact (setCells_keep g _ o w2).2.2.2.1

/-- Blocks have come, and of those that there were only P's have turned. -/
structure Ch (P : Nat → Prop) (w w' : World) : Prop where
  os : w'.os = w.os
  tape : w'.tape = w.tape
  output : w'.output = w.output
  size : w.heap.size ≤ w'.heap.size
  block : ∀ k, k < w.heap.size → ¬ P k → w'.heap[k]? = w.heap[k]?
theorem Ch.refl (P : Nat → Prop) (w : World) : Ch P w w := ⟨rfl, rfl, rfl, Nat.le_refl _, fun _ _ _ => rfl⟩
theorem Ch.trans {P Q R : Nat → Prop} {w w1 w2 : World} (h : Ch P w w1) (k : Ch Q w1 w2) (hP : ∀ j, P j → R j) (hQ : ∀ j, Q j → R j) : Ch R w w2 :=
  ⟨k.os.trans h.os, k.tape.trans h.tape, k.output.trans h.output, Nat.le_trans h.size k.size, fun j hj hn => (k.block j (Nat.lt_of_lt_of_le hj h.size) (fun q => hn (hQ j q))).trans (h.block j hj fun p => hn (hP j p))⟩
theorem Ch.of_below {P : Nat → Prop} {w w' : World} (h : Below w.heap.size w w') : Ch P w w' := ⟨h.os, h.tape, h.output, h.size, fun k hk _ => h.block k hk⟩
theorem Ch.bx {P : Nat → Prop} {w w' : World} (h : Ch P w w') {k : Nat} {t : TypeId} {cs : Array Value} (hb : Bx w k t cs) (hk : ¬ P k) : Bx w' k t cs := (h.block k hb.lt hk).trans hb
theorem Ch.cell {P : Nat → Prop} {w w' : World} (h : Ch P w w') {g : Nat} (hg : g < w.heap.size) (hk : ¬ P g) (j : Nat) : w'.cell? ⟨g, j, none⟩ = w.cell? ⟨g, j, none⟩ := World.cell?_of_block (w := w) (a := ⟨g, j, none⟩) (h.block g hg hk)
theorem Ch.frozen {P : Nat → Prop} {w w' : World} (h : Ch P w w') {g : Nat} (hg : g < w.heap.size) (hk : ¬ P g) (j : Nat) : w'.frozen? ⟨g, j, none⟩ = w.frozen? ⟨g, j, none⟩ := World.frozen?_of_block (w := w) (a := ⟨g, j, none⟩) (h.block g hg hk)
theorem Ch.below {P : Nat → Prop} {B : Nat} {w w' : World} (h : Ch P w w') (hB : B ≤ w.heap.size) (hP : ∀ j, P j → B ≤ j) : Below B w w' :=
  ⟨h.os, h.tape, h.output, h.size, fun k hk => h.block k (by omega) fun p => by have := hP k p; omega⟩

/-- A loop that writes over row g, element after element, and what its elements have. -/
structure SL (W wr : World) (g n sz k : Nat) (m : Nat → Nat) : Prop where
  ch : Ch (fun j => (0 < n ∧ j = g) ∨ (m 0 ≤ j ∧ j < m k)) W wr
  c : ∀ j, k * sz ≤ j → wr.cell? ⟨g, j, none⟩ = W.cell? ⟨g, j, none⟩
  fz : ∀ j, wr.frozen? ⟨g, j, none⟩ = W.frozen? ⟨g, j, none⟩
theorem SL.start (W : World) (g n sz : Nat) (m : Nat → Nat) : SL W W g n sz 0 m := ⟨Ch.refl _ _, fun _ _ => rfl, fun _ => rfl⟩
theorem SL.step {W wr w2 : World} {g n sz k : Nat} {m : Nat → Nat} (h : SL W wr g n sz k m) (hk : k < n) (hg : g < W.heap.size) (hgm : ¬ (m k ≤ g ∧ g < m (k + 1))) (h0 : m 0 ≤ m k) (h1 : m k ≤ m (k + 1)) (h2 : Ch (fun j => m k ≤ j ∧ j < m (k + 1)) wr w2) (vs : List Value) (hv : vs.length = sz) :
    SL W (w2.setCells g (k * sz) vs) g n sz (k + 1) m := by
  obtain ⟨q1, q2, q3, q4, q5⟩ := setCells_keep g vs (k * sz) w2
  have hgw := Nat.lt_of_lt_of_le hg h.ch.size
  refine ⟨⟨q2.trans (h2.os.trans h.ch.os), q3.trans (h2.tape.trans h.ch.tape), q4.trans (h2.output.trans h.ch.output), by rw [q1]; exact Nat.le_trans h.ch.size h2.size, fun j hj hn => ?_⟩, fun j hj => ?_, fun j => ?_⟩
  · have n1 : j ≠ g := fun e => hn (.inl ⟨by omega, e⟩)
    exact (q5 j n1).trans ((h2.block j (Nat.lt_of_lt_of_le hj h.ch.size) fun q => hn (.inr ⟨by omega, by omega⟩)).trans (h.ch.block j hj fun q => by
      rcases q with q | q
      · exact n1 q.2
      · exact hn (.inr ⟨q.1, by omega⟩)))
  · have hj2 : k * sz + vs.length ≤ j := by rw [hv, ← Nat.succ_mul]; exact hj
    rw [World.cell?_setCells_out g vs (k * sz) w2 ⟨g, j, none⟩ (fun _ _ => .inr hj2), h2.cell hgw hgm]
    exact h.c j (by omega)
  · rw [World.frozen?_setCells, h2.frozen hgw hgm]
    exact h.fz j
theorem set9 (w : World) (g o : Nat) (u0 u1 u2 u3 u4 u5 u6 u7 u8 : Value) :
    (((((((((w.setCell ⟨g, o, none⟩ u0).setCell ⟨g, o + 1, none⟩ u1).setCell ⟨g, o + 2, none⟩ u2).setCell ⟨g, o + 3, none⟩ u3).setCell ⟨g, o + 4, none⟩ u4).setCell ⟨g, o + 5, none⟩ u5).setCell ⟨g, o + 6, none⟩ u6).setCell ⟨g, o + 7, none⟩ u7).setCell ⟨g, o + 8, none⟩ u8) = w.setCells g o [u0, u1, u2, u3, u4, u5, u6, u7, u8] := by
  simp only [World.setCells]
theorem set7' (w : World) (g o : Nat) (u0 u1 u2 u3 u4 u5 u6 : Value) :
    (((((((w.setCell ⟨g, o, none⟩ u0).setCell ⟨g, o + 1, none⟩ u1).setCell ⟨g, o + 2, none⟩ u2).setCell ⟨g, o + 3, none⟩ u3).setCell ⟨g, o + 4, none⟩ u4).setCell ⟨g, o + 5, none⟩ u5).setCell ⟨g, o + 6, none⟩ u6) = w.setCells g o [u0, u1, u2, u3, u4, u5, u6] := by
  simp only [World.setCells]
theorem set2 (w : World) (g o : Nat) (u0 u1 : Value) : ((w.setCell ⟨g, o, none⟩ u0).setCell ⟨g, o + 1, none⟩ u1) = w.setCells g o [u0, u1] := by
  simp only [World.setCells]
theorem set1 (w : World) (g o : Nat) (u0 : Value) : (w.setCell ⟨g, o, none⟩ u0) = w.setCells g o [u0] := by
  simp only [World.setCells]
end Go.Proofs.Ytbdhihgokkcmfaa.Ty9

