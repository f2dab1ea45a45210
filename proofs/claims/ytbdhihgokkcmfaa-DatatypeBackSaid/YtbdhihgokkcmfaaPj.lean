/- The numbers within a type, plainly; memory in which one captured slice grows. -/
import Derived.Test.YtbdhihgokkcmfaaPh
import Derived.Maps.AppendAt
import Derived.OneCell
namespace Go.Proofs.Ytbdhihgokkcmfaa.Ty9
set_option linter.unusedVariables false
set_option linter.unusedSimpArgs false
open Go.RowKit Wd

/-- A number within an element. -/
structure Pl where
  pos : Int
  c : Int
  w : Int
  big : Bool
def Pl.cells (p : Pl) : List Value := [.int .i64 p.pos, .int .i64 p.c, .int .i64 p.w, .bool p.big]
def reps : Nat → Int → (Int → List Pl) → Int → List Pl
  | 0, _, _, _ => []
  | n + 1, s, f, p => f p ++ reps n s f (p + s)
def prod : List Int → Int
  | [] => 1
  | d :: ds => d * prod ds
mutual
noncomputable def pls : Ty → Int → List Pl
  | .mk c w b fs ds bs _, p => if c = 5 then plf fs p else if c = 6 then pla (prod ds).toNat bs p else if c = 7 then plb bs p else if c = 4 then [⟨p, 3, w, b⟩, ⟨p + w, 3, w, b⟩] else [⟨p, c, w, b⟩]
noncomputable def plf : List Fd → Int → List Pl
  | [], _ => []
  | .mk _ q t :: fs, p => pls t (p + q) ++ plf fs p
noncomputable def pla : Nat → List Ty → Int → List Pl
  | _, [], _ => []
  | n, x :: _, p => reps n (sz 4 x) (fun q => pls x q) p
noncomputable def plb : List Ty → Int → List Pl
  | [], _ => []
  | x :: _, p => pls x p
end
theorem plf_cons (f : Fd) (fs : List Fd) (p : Int) : plf (f :: fs) p = pls f.ty (p + f.pos) ++ plf fs p := by
  cases f; rfl

/-- From world w to w' blocks have come, and block go and row r alone have turned. -/
structure Gr (go : Nat) (r : Option Nat) (w w' : World) : Prop where
  os : w'.os = w.os
  tape : w'.tape = w.tape
  output : w'.output = w.output
  size : w.heap.size ≤ w'.heap.size
  block : ∀ k, k < w.heap.size → k ≠ go → some k ≠ r → w'.heap[k]? = w.heap[k]?
theorem Gr.refl (go : Nat) (r : Option Nat) (w : World) : Gr go r w w := ⟨rfl, rfl, rfl, Nat.le_refl _, fun _ _ _ _ => rfl⟩
theorem Gr.trans {go : Nat} {r r1 : Option Nat} {w w1 w2 : World} (h : Gr go r w w1) (hr : r1 = r ∨ ∃ k, r1 = some k ∧ w.heap.size ≤ k) (k : Gr go r1 w1 w2) : Gr go r w w2 :=
  ⟨k.os.trans h.os, k.tape.trans h.tape, k.output.trans h.output, Nat.le_trans h.size k.size, fun i hi hg hn => (k.block i (Nat.lt_of_lt_of_le hi h.size) hg (by
    rcases hr with rfl | ⟨j, rfl, hj⟩
    · exact hn
    · intro e; injection e with e; omega)).trans (h.block i hi hg hn)⟩
theorem Gr.of_below {go : Nat} {r : Option Nat} {w w' : World} (h : Below w.heap.size w w') : Gr go r w w' := ⟨h.os, h.tape, h.output, h.size, fun i hi _ _ => h.block i hi⟩
theorem Gr.of_grown {go : Nat} {r : Option Nat} {w w' : World} (h : w.grownBy w' r) : Gr go r w w' := ⟨h.os, h.tape, h.output, h.size, fun i hi _ hn => h.block i hi hn⟩
theorem Gr.set {go : Nat} {r : Option Nat} {w w' : World} (h : Gr go r w w') (i : Nat) (u : Value) : Gr go r w (w'.setCell ⟨go, i, none⟩ u) :=
  h.trans (.inl rfl) ⟨rfl, rfl, rfl, by simp [World.setCell], fun k hk hg _ => Below.heap_setCell _ _ _ _ hg⟩
theorem Gr.set_new {go : Nat} {r : Option Nat} {w w' : World} (h : Gr go r w w') (a : Addr) (ha : w.heap.size ≤ a.block) (u : Value) : Gr go r w (w'.setCell a u) :=
  ⟨h.os, h.tape, h.output, by have := h.size; simp [World.setCell]; exact this, fun k hk hg hn => (Below.heap_setCell _ _ _ _ (by omega)).trans (h.block k hk hg hn)⟩
theorem Gr.bx {go : Nat} {r : Option Nat} {w w' : World} (h : Gr go r w w') {g : Nat} {t : TypeId} {cs : Array Value} (hb : Bx w g t cs) (hg : g ≠ go) (hr : some g ≠ r) : Bx w' g t cs := (h.block g hb.lt hg hr).trans hb
theorem Gr.below {B go : Nat} {r : Option Nat} {w w' : World} (h : Gr go r w w') (hB : B ≤ w.heap.size) (hgo : B ≤ go) (hr : ∀ k, r = some k → B ≤ k) : Below B w w' :=
  ⟨h.os, h.tape, h.output, h.size, fun k hk => h.block k (by omega) (by omega) (fun e => by have := hr k e.symm; omega)⟩
theorem Gr.drewN {go : Nat} {r : Option Nat} {w w' : World} (h : Gr go r w w') (n : Nat) : Gr go r w (w'.drewN n) :=
  h.trans (.inl rfl) (.of_below (below_drewN (Below.refl _ _) n))
theorem Gr.alloc {go : Nat} {r : Option Nat} {w w' : World} (h : Gr go r w w') (o : Obj) : Gr go r w (w'.alloc o) :=
  h.trans (.inl rfl) (.of_below (below_new _ _))

/-- The closure's state: its own value in block gw, the slice V of the numbers xs in block go. -/
structure PSt (gw go base : Nat) (V : Value) (xs : List Pl) (w : World) : Prop where
  walk : Bx w gw 69 #[.func (.func 35) #[] #[.pointer (some ⟨gw, 0, none⟩), .pointer (some ⟨go, 0, none⟩)]]
  out : Bx w go 39 #[V]
  own : w.ownsRow base 46 4 V xs.length (xs.flatMap Pl.cells)
theorem PSt.ne {gw go base : Nat} {V : Value} {xs : List Pl} {w : World} (h : PSt gw go base V xs w) (hgw : gw < base) (hgo : go < base) : some gw ≠ V.ownBlock ∧ some go ≠ V.ownBlock :=
  ⟨fun e => by have := (h.own.lt gw e.symm).1; omega, fun e => by have := (h.own.lt go e.symm).1; omega⟩
theorem PSt.below {gw go base : Nat} {V : Value} {xs : List Pl} {w w' : World} (h : PSt gw go base V xs w) (hb : Below w.heap.size w w') : PSt gw go base V xs w' :=
  ⟨h.walk.later hb h.walk.lt, h.out.later hb h.out.lt, h.own.kept ⟨hb.os, hb.tape, hb.output, hb.size, fun k hk _ => hb.block k hk⟩ (by
    rcases hv : V.ownBlock with _ | k
    · exact .inl rfl
    · exact .inr (fun e => by injection e with e; exact absurd e (Nat.ne_of_lt (h.own.lt k hv).2)) : V.ownBlock = none ∨ V.ownBlock ≠ some w.heap.size)⟩
theorem PSt.set_new {gw go base : Nat} {V : Value} {xs : List Pl} {w : World} (h : PSt gw go base V xs w) (a : Addr) (u : Value) (h1 : a.block ≠ gw) (h2 : a.block ≠ go) (h3 : V.ownBlock ≠ some a.block) : PSt gw go base V xs (w.setCell a u) :=
  ⟨(Below.heap_setCell _ _ _ _ (Ne.symm h1)).trans h.walk, (Below.heap_setCell _ _ _ _ (Ne.symm h2)).trans h.out, ownsRow_setCell_other h.own h3 u⟩
/-- What a call of the closure leaves. -/
def PPost (gw go base : Nat) (V : Value) (ys : List Pl) (w : World) (e : Ending) (w' : World) : Prop :=
  e = .returned (.tuple #[]) ∧ ∃ V', PSt gw go base V' ys w' ∧ Gr go V.ownBlock w w' ∧ (V'.ownBlock = V.ownBlock ∨ ∃ k, V'.ownBlock = some k ∧ w.heap.size ≤ k)
theorem place_info : (Try.prog.info? 46).map (fun i => (i.zero, i.size, i.bytes)) = some (some (.agg #[.int .i64 0, .int .i64 0, .int .i64 0, .bool false]), 4, 32) := by kernel_rfl
end Go.Proofs.Ytbdhihgokkcmfaa.Ty9
