/- Types of elements as plain data, and how one lies in memory. -/
import Derived.Test.YtbdhihgokkcmfaaWd
namespace Go.Proofs.Ytbdhihgokkcmfaa.Ty9
set_option linter.unusedVariables false
set_option linter.unusedSimpArgs false
open Go.RowKit

mutual
/-- A type: class, width, order, fields, dimensions, base, names. -/
inductive Ty where
  | mk (c w : Int) (b : Bool) (fs : List Fd) (ds : List Int) (bs : List Ty) (ns : List (ByteArray × Int))
/-- A field: name, first byte, type. -/
inductive Fd where
  | mk (n : ByteArray) (p : Int) (t : Ty)
end
def Fd.name : Fd → ByteArray | .mk n _ _ => n
def Fd.pos : Fd → Int | .mk _ p _ => p
def Fd.ty : Fd → Ty | .mk _ _ t => t

theorem Ty.ind {P : Ty → Prop} (h : ∀ c w b fs ds bs ns, (∀ f ∈ fs, P f.ty) → (∀ x ∈ bs, P x) → P (.mk c w b fs ds bs ns)) : ∀ t, P t
  | .mk c w b fs ds bs ns => h c w b fs ds bs ns (fun f hf => by
      cases f with
      | mk n p t =>
        have := List.sizeOf_lt_of_mem hf
        exact Ty.ind h t) (fun x hx => Ty.ind h x)
termination_by t => SizeOf.sizeOf t
decreasing_by
  all_goals simp_wf
  · have := List.sizeOf_lt_of_mem hf
    simp at this ⊢
    omega
  · have := List.sizeOf_lt_of_mem hx
    omega

/-- The value v is the type t in memory w: its lists lie below block B. -/
inductive TyAt (w : World) (B : Nat) : Ty → Value → Prop where
  | mk (c wd : Int) (b : Bool) (fs : List Fd) (ds : List Int) (bs : List Ty) (ns : List (ByteArray × Int))
      (fA dA bA nA : Option Addr) (fC dC bC nC : Nat) (fb fo db dO bb bo nb nO : Nat) (fv bv : Nat → Nat → Value)
      (hf : fs.length ≤ 140737488355328) (hd : ds.length ≤ 140737488355328) (hb : bs.length ≤ 140737488355328) (hn : ns.length ≤ 140737488355328)
      (hfz : ∀ f ∈ fs, f.name.size ≤ 140737488355328) (hnz : ∀ x ∈ ns, x.1.size ≤ 140737488355328) (hnr : ∀ x ∈ ns, -9223372036854775808 ≤ x.2 ∧ x.2 ≤ 9223372036854775807) (hcap : fs.length ≤ fC ∧ ds.length ≤ dC ∧ bs.length ≤ bC ∧ ns.length ≤ nC)
      (hfA : 0 < fs.length → fA = some ⟨fb, fo, none⟩ ∧ fb < B) (hdA : 0 < ds.length → dA = some ⟨db, dO, none⟩ ∧ db < B) (hbA : 0 < bs.length → bA = some ⟨bb, bo, none⟩ ∧ bb < B) (hnA : 0 < ns.length → nA = some ⟨nb, nO, none⟩ ∧ nb < B)
      (hf0 : ∀ i (h : i < fs.length), w.cell? ⟨fb, fo + i * 9, none⟩ = some (.string fs[i].name))
      (hf1 : ∀ i (h : i < fs.length), w.cell? ⟨fb, fo + i * 9 + 1, none⟩ = some (.int .i64 fs[i].pos))
      (hf2 : ∀ i, i < fs.length → ∀ k, k < 7 → w.cell? ⟨fb, fo + i * 9 + 2 + k, none⟩ = some (fv i k))
      (hft : ∀ i (h : i < fs.length), TyAt w B fs[i].ty (.agg #[fv i 0, fv i 1, fv i 2, fv i 3, fv i 4, fv i 5, fv i 6]))
      (hd0 : ∀ i (h : i < ds.length), w.cell? ⟨db, dO + i, none⟩ = some (.int .i64 ds[i]))
      (hb0 : ∀ i, i < bs.length → ∀ k, k < 7 → w.cell? ⟨bb, bo + i * 7 + k, none⟩ = some (bv i k))
      (hbt : ∀ i (h : i < bs.length), TyAt w B bs[i] (.agg #[bv i 0, bv i 1, bv i 2, bv i 3, bv i 4, bv i 5, bv i 6]))
      (hn0 : ∀ i (h : i < ns.length), w.cell? ⟨nb, nO + i * 2, none⟩ = some (.string ns[i].1))
      (hn1 : ∀ i (h : i < ns.length), w.cell? ⟨nb, nO + i * 2 + 1, none⟩ = some (.int .i64 ns[i].2)) :
      TyAt w B (.mk c wd b fs ds bs ns) (.agg #[.int .i64 c, .int .i64 wd, .bool b, .slice fA fs.length fC, .slice dA ds.length dC, .slice bA bs.length bC, .slice nA ns.length nC])

theorem TyAt.keep {w w' : World} {B : Nat} (hk : ∀ p : Addr, p.block < B → w'.cell? p = w.cell? p) {t : Ty} {v : Value} (h : TyAt w B t v) : TyAt w' B t v := by
  induction h with
  | mk c wd b fs ds bs ns fA dA bA nA fC dC bC nC fb fo db dO bb bo nb nO fv bv hf hd hb hn hfz hnz hnr hcap hfA hdA hbA hnA hf0 hf1 hf2 hft hd0 hb0 hbt hn0 hn1 ihf ihb =>
    exact .mk c wd b fs ds bs ns fA dA bA nA fC dC bC nC fb fo db dO bb bo nb nO fv bv hf hd hb hn hfz hnz hnr hcap hfA hdA hbA hnA
      (fun i h => (hk _ (hfA (by omega)).2).trans (hf0 i h)) (fun i h => (hk _ (hfA (by omega)).2).trans (hf1 i h)) (fun i h k hk' => (hk _ (hfA (by omega)).2).trans (hf2 i h k hk')) ihf
      (fun i h => (hk _ (hdA (by omega)).2).trans (hd0 i h)) (fun i h k hk' => (hk _ (hbA (by omega)).2).trans (hb0 i h k hk')) ihb
      (fun i h => (hk _ (hnA (by omega)).2).trans (hn0 i h)) (fun i h => (hk _ (hnA (by omega)).2).trans (hn1 i h))
theorem TyAt.up {w : World} {B B' : Nat} (hB : B ≤ B') {t : Ty} {v : Value} (h : TyAt w B t v) : TyAt w B' t v := by
  induction h with
  | mk c wd b fs ds bs ns fA dA bA nA fC dC bC nC fb fo db dO bb bo nb nO fv bv hf hd hb hn hfz hnz hnr hcap hfA hdA hbA hnA hf0 hf1 hf2 hft hd0 hb0 hbt hn0 hn1 ihf ihb =>
    exact .mk c wd b fs ds bs ns fA dA bA nA fC dC bC nC fb fo db dO bb bo nb nO fv bv hf hd hb hn hfz hnz hnr hcap
      (fun h => ⟨(hfA h).1, by have := (hfA h).2; omega⟩) (fun h => ⟨(hdA h).1, by have := (hdA h).2; omega⟩) (fun h => ⟨(hbA h).1, by have := (hbA h).2; omega⟩) (fun h => ⟨(hnA h).1, by have := (hnA h).2; omega⟩)
      hf0 hf1 hf2 ihf hd0 hb0 ihb hn0 hn1
theorem TyAt.drew {w : World} {B : Nat} {t : Ty} {v : Value} (h : TyAt w B t v) : TyAt w.drew B t v := TyAt.keep (w := w) (w' := w.drew) (fun _ _ => rfl) h
theorem TyAt.later {w w' : World} {B : Nat} (hb : Below B w w') {t : Ty} {v : Value} (h : TyAt w B t v) : TyAt w' B t v := h.keep fun _ hp => hb.cell hp

/-! ### the law's budget -/
def nl (ns : List (ByteArray × Int)) (n : Int) : Int := ns.foldl (fun n x => wrap64 (n - ((x.1.size / 50 : Nat) : Int))) n
mutual
def Ty.left : Ty → Int → Int
  | .mk _ _ _ fs ds bs ns, n => lefts bs (leftf fs (nl ns (n - 1 - ds.length - ns.length)))
def leftf : List Fd → Int → Int
  | [], n => n
  | .mk m _ t :: fs, n => if 0 < n then leftf fs (t.left (n - 1 - ((m.size / 50 : Nat) : Int))) else n
def lefts : List Ty → Int → Int
  | [], n => n
  | t :: ts, n => if 0 < n then lefts ts (t.left n) else n
end
theorem nl_snoc (ns : List (ByteArray × Int)) (x : ByteArray × Int) (n : Int) : nl (ns ++ [x]) n = wrap64 (nl ns n - ((x.1.size / 50 : Nat) : Int)) := by
  unfold nl; rw [List.foldl_append]; rfl
theorem leftf_cons (f : Fd) (fs : List Fd) (n : Int) : leftf (f :: fs) n = if 0 < n then leftf fs (f.ty.left (n - 1 - ((f.name.size / 50 : Nat) : Int))) else n := by
  cases f; rfl
theorem leftf_neg (fs : List Fd) {n : Int} (h : ¬ 0 < n) : leftf fs n = n := by
  cases fs with
  | nil => rfl
  | cons f fs => rw [leftf_cons, if_neg h]
theorem lefts_cons (t : Ty) (ts : List Ty) (n : Int) : lefts (t :: ts) n = if 0 < n then lefts ts (t.left n) else n := rfl
theorem lefts_neg (ts : List Ty) {n : Int} (h : ¬ 0 < n) : lefts ts n = n := by
  cases ts with
  | nil => rfl
  | cons t ts => rw [lefts_cons, if_neg h]
theorem wrap64_le (x : Int) : wrap64 x ≤ 9223372036854775807 := by unfold wrap64; omega
theorem nl_le (ns : List (ByteArray × Int)) : ∀ n : Int, n ≤ 9223372036854775807 → nl ns n ≤ 9223372036854775807 := by
  induction ns with
  | nil => intro n h; exact h
  | cons x ns ih => intro n h; exact ih _ (wrap64_le _)
theorem left_le (t : Ty) : ∀ n : Int, n ≤ 9223372036854775807 → t.left n ≤ 9223372036854775807 := by
  induction t using Ty.ind with
  | h c w b fs ds bs ns ihf ihb =>
    intro n h
    have h1 : ∀ (l : List Fd), (∀ f ∈ l, f ∈ fs) → ∀ q : Int, q ≤ 9223372036854775807 → leftf l q ≤ 9223372036854775807 := by
      intro l
      induction l with
      | nil => intro _ q hq; exact hq
      | cons f l ih =>
        intro hl q hq
        rw [leftf_cons]
        split
        · exact ih (fun g hg => hl g (List.mem_cons_of_mem _ hg)) _ (ihf f (hl f List.mem_cons_self) _ (by omega))
        · exact hq
    have h2 : ∀ (l : List Ty), (∀ f ∈ l, f ∈ bs) → ∀ q : Int, q ≤ 9223372036854775807 → lefts l q ≤ 9223372036854775807 := by
      intro l
      induction l with
      | nil => intro _ q hq; exact hq
      | cons f l ih =>
        intro hl q hq
        rw [lefts_cons]
        split
        · exact ih (fun g hg => hl g (List.mem_cons_of_mem _ hg)) _ (ihb f (hl f List.mem_cons_self) _ hq)
        · exact hq
    exact h2 bs (fun _ h => h) _ (h1 fs (fun _ h => h) _ (nl_le ns _ (by omega)))
end Go.Proofs.Ytbdhihgokkcmfaa.Ty9
