/- Types of elements as plain data, and how one lies in memory; what types may be. -/
import Derived.Test.YtbdhihgokkcmfaaWd
import Derived.Lib.Hide
import Derived.Lib.Bytealg
import Derived.Lib.IndexLaws
import Derived.Lib.Strings
namespace Go.Proofs.Ytbdhihgokkcmfaa.Ty9
set_option linter.unusedVariables false
set_option linter.unusedSimpArgs false
open Go.RowKit

mutual
/-- A type: class, width, order, fields, dimensions, base, names. -/
inductive Ty where
  | mk (c w : Int) (b : Bool) (fs : List Fd) (ds : List Int) (bs : List Ty) (ns : List (ByteArray × Int))
/-- A field: name, first byte, type. -/
inductive Fd where
  | mk (n : ByteArray) (p : Int) (t : Ty)
end
def Fd.name : Fd → ByteArray | .mk n _ _ => n
def Fd.pos : Fd → Int | .mk _ p _ => p
def Fd.ty : Fd → Ty | .mk _ _ t => t

theorem Ty.ind {P : Ty → Prop} (h : ∀ c w b fs ds bs ns, (∀ f ∈ fs, P f.ty) → (∀ x ∈ bs, P x) → P (.mk c w b fs ds bs ns)) : ∀ t, P t
  | .mk c w b fs ds bs ns => h c w b fs ds bs ns (fun f hf => by
      cases f with
      | mk n p t =>
        have := List.sizeOf_lt_of_mem hf
        exact Ty.ind h t) (fun x hx => Ty.ind h x)
termination_by t => SizeOf.sizeOf t
decreasing_by
  all_goals simp_wf
  · have := List.sizeOf_lt_of_mem hf
    simp at this ⊢
    omega
  · have := List.sizeOf_lt_of_mem hx
    omega

/-- The value v is the type t in memory w: its lists lie below block B. -/
inductive TyAt (w : World) (B : Nat) : Ty → Value → Prop where
  | mk (c wd : Int) (b : Bool) (fs : List Fd) (ds : List Int) (bs : List Ty) (ns : List (ByteArray × Int))
      (fA dA bA nA : Option Addr) (fC dC bC nC : Nat) (fb fo db dO bb bo nb nO : Nat) (fv bv : Nat → Nat → Value)
      (hf : fs.length ≤ 140737488355328) (hd : ds.length ≤ 140737488355328) (hb : bs.length ≤ 140737488355328) (hn : ns.length ≤ 140737488355328)
      (hfz : ∀ f ∈ fs, f.name.size ≤ 140737488355328) (hnz : ∀ x ∈ ns, x.1.size ≤ 140737488355328) (hnr : ∀ x ∈ ns, -9223372036854775808 ≤ x.2 ∧ x.2 ≤ 9223372036854775807) (hcap : fs.length ≤ fC ∧ ds.length ≤ dC ∧ bs.length ≤ bC ∧ ns.length ≤ nC)
      (hfA : 0 < fs.length → fA = some ⟨fb, fo, none⟩ ∧ fb < B) (hdA : 0 < ds.length → dA = some ⟨db, dO, none⟩ ∧ db < B) (hbA : 0 < bs.length → bA = some ⟨bb, bo, none⟩ ∧ bb < B) (hnA : 0 < ns.length → nA = some ⟨nb, nO, none⟩ ∧ nb < B)
      (hf0 : ∀ i (h : i < fs.length), w.cell? ⟨fb, fo + i * 9, none⟩ = some (.string fs[i].name))
      (hf1 : ∀ i (h : i < fs.length), w.cell? ⟨fb, fo + i * 9 + 1, none⟩ = some (.int .i64 fs[i].pos))
      (hf2 : ∀ i, i < fs.length → ∀ k, k < 7 → w.cell? ⟨fb, fo + i * 9 + 2 + k, none⟩ = some (fv i k))
      (hft : ∀ i (h : i < fs.length), TyAt w B fs[i].ty (.agg #[fv i 0, fv i 1, fv i 2, fv i 3, fv i 4, fv i 5, fv i 6]))
      (hd0 : ∀ i (h : i < ds.length), w.cell? ⟨db, dO + i, none⟩ = some (.int .i64 ds[i]))
      (hb0 : ∀ i, i < bs.length → ∀ k, k < 7 → w.cell? ⟨bb, bo + i * 7 + k, none⟩ = some (bv i k))
      (hbt : ∀ i (h : i < bs.length), TyAt w B bs[i] (.agg #[bv i 0, bv i 1, bv i 2, bv i 3, bv i 4, bv i 5, bv i 6]))
      (hn0 : ∀ i (h : i < ns.length), w.cell? ⟨nb, nO + i * 2, none⟩ = some (.string ns[i].1))
      (hn1 : ∀ i (h : i < ns.length), w.cell? ⟨nb, nO + i * 2 + 1, none⟩ = some (.int .i64 ns[i].2)) :
      TyAt w B (.mk c wd b fs ds bs ns) (.agg #[.int .i64 c, .int .i64 wd, .bool b, .slice fA fs.length fC, .slice dA ds.length dC, .slice bA bs.length bC, .slice nA ns.length nC])

theorem TyAt.keep {w w' : World} {B : Nat} (hk : ∀ p : Addr, p.block < B → w'.cell? p = w.cell? p) {t : Ty} {v : Value} (h : TyAt w B t v) : TyAt w' B t v := by
  induction h with
  | mk c wd b fs ds bs ns fA dA bA nA fC dC bC nC fb fo db dO bb bo nb nO fv bv hf hd hb hn hfz hnz hnr hcap hfA hdA hbA hnA hf0 hf1 hf2 hft hd0 hb0 hbt hn0 hn1 ihf ihb =>
    exact .mk c wd b fs ds bs ns fA dA bA nA fC dC bC nC fb fo db dO bb bo nb nO fv bv hf hd hb hn hfz hnz hnr hcap hfA hdA hbA hnA
      (fun i h => (hk _ (hfA (by omega)).2).trans (hf0 i h)) (fun i h => (hk _ (hfA (by omega)).2).trans (hf1 i h)) (fun i h k hk' => (hk _ (hfA (by omega)).2).trans (hf2 i h k hk')) ihf
      (fun i h => (hk _ (hdA (by omega)).2).trans (hd0 i h)) (fun i h k hk' => (hk _ (hbA (by omega)).2).trans (hb0 i h k hk')) ihb
      (fun i h => (hk _ (hnA (by omega)).2).trans (hn0 i h)) (fun i h => (hk _ (hnA (by omega)).2).trans (hn1 i h))
theorem TyAt.up {w : World} {B B' : Nat} (hB : B ≤ B') {t : Ty} {v : Value} (h : TyAt w B t v) : TyAt w B' t v := by
  induction h with
  | mk c wd b fs ds bs ns fA dA bA nA fC dC bC nC fb fo db dO bb bo nb nO fv bv hf hd hb hn hfz hnz hnr hcap hfA hdA hbA hnA hf0 hf1 hf2 hft hd0 hb0 hbt hn0 hn1 ihf ihb =>
    exact .mk c wd b fs ds bs ns fA dA bA nA fC dC bC nC fb fo db dO bb bo nb nO fv bv hf hd hb hn hfz hnz hnr hcap
      (fun h => ⟨(hfA h).1, by have := (hfA h).2; omega⟩) (fun h => ⟨(hdA h).1, by have := (hdA h).2; omega⟩) (fun h => ⟨(hbA h).1, by have := (hbA h).2; omega⟩) (fun h => ⟨(hnA h).1, by have := (hnA h).2; omega⟩)
      hf0 hf1 hf2 ihf hd0 hb0 ihb hn0 hn1
theorem TyAt.drew {w : World} {B : Nat} {t : Ty} {v : Value} (h : TyAt w B t v) : TyAt w.drew B t v := TyAt.keep (w := w) (w' := w.drew) (fun _ _ => rfl) h
theorem TyAt.later {w w' : World} {B : Nat} (hb : Below B w w') {t : Ty} {v : Value} (h : TyAt w B t v) : TyAt w' B t v := h.keep fun _ hp => hb.cell hp

/-! ### the law's budget -/
def nl (ns : List (ByteArray × Int)) (n : Int) : Int := ns.foldl (fun n x => wrap64 (n - ((x.1.size / 50 : Nat) : Int))) n
mutual
def Ty.left : Ty → Int → Int
  | .mk _ _ _ fs ds bs ns, n => lefts bs (leftf fs (nl ns (n - 1 - ds.length - ns.length)))
def leftf : List Fd → Int → Int
  | [], n => n
  | .mk m _ t :: fs, n => if 0 < n then leftf fs (t.left (n - 1 - ((m.size / 50 : Nat) : Int))) else n
def lefts : List Ty → Int → Int
  | [], n => n
  | t :: ts, n => if 0 < n then lefts ts (t.left n) else n
end
theorem nl_snoc (ns : List (ByteArray × Int)) (x : ByteArray × Int) (n : Int) : nl (ns ++ [x]) n = wrap64 (nl ns n - ((x.1.size / 50 : Nat) : Int)) := by
  unfold nl; rw [List.foldl_append]; rfl
theorem leftf_cons (f : Fd) (fs : List Fd) (n : Int) : leftf (f :: fs) n = if 0 < n then leftf fs (f.ty.left (n - 1 - ((f.name.size / 50 : Nat) : Int))) else n := by
  cases f; rfl
theorem leftf_neg (fs : List Fd) {n : Int} (h : ¬ 0 < n) : leftf fs n = n := by
  cases fs with
  | nil => rfl
  | cons f fs => rw [leftf_cons, if_neg h]
theorem lefts_cons (t : Ty) (ts : List Ty) (n : Int) : lefts (t :: ts) n = if 0 < n then lefts ts (t.left n) else n := rfl
theorem lefts_neg (ts : List Ty) {n : Int} (h : ¬ 0 < n) : lefts ts n = n := by
  cases ts with
  | nil => rfl
  | cons t ts => rw [lefts_cons, if_neg h]
theorem wrap64_le (x : Int) : wrap64 x ≤ 9223372036854775807 := by unfold wrap64; omega
theorem nl_le (ns : List (ByteArray × Int)) : ∀ n : Int, n ≤ 9223372036854775807 → nl ns n ≤ 9223372036854775807 := by
  induction ns with
  | nil => intro n h; exact h
  | cons x ns ih => intro n h; exact ih _ (wrap64_le _)
theorem left_le (t : Ty) : ∀ n : Int, n ≤ 9223372036854775807 → t.left n ≤ 9223372036854775807 := by
  induction t using Ty.ind with
  | h c w b fs ds bs ns ihf ihb =>
    intro n h
    have h1 : ∀ (l : List Fd), (∀ f ∈ l, f ∈ fs) → ∀ q : Int, q ≤ 9223372036854775807 → leftf l q ≤ 9223372036854775807 := by
      intro l
      induction l with
      | nil => intro _ q hq; exact hq
      | cons f l ih =>
        intro hl q hq
        rw [leftf_cons]
        split
        · exact ih (fun g hg => hl g (List.mem_cons_of_mem _ hg)) _ (ihf f (hl f List.mem_cons_self) _ (by omega))
        · exact hq
    have h2 : ∀ (l : List Ty), (∀ f ∈ l, f ∈ bs) → ∀ q : Int, q ≤ 9223372036854775807 → lefts l q ≤ 9223372036854775807 := by
      intro l
      induction l with
      | nil => intro _ q hq; exact hq
      | cons f l ih =>
        intro hl q hq
        rw [lefts_cons]
        split
        · exact ih (fun g hg => hl g (List.mem_cons_of_mem _ hg)) _ (ihb f (hl f List.mem_cons_self) _ hq)
        · exact hq
    exact h2 bs (fun _ h => h) _ (h1 fs (fun _ h => h) _ (nl_le ns _ (by omega)))

def Ty.c : Ty → Int | .mk c _ _ _ _ _ _ => c
def Ty.w : Ty → Int | .mk _ w _ _ _ _ _ => w
def Ty.big : Ty → Bool | .mk _ _ b _ _ _ _ => b
def Ty.fs : Ty → List Fd | .mk _ _ _ f _ _ _ => f
def Ty.ds : Ty → List Int | .mk _ _ _ _ d _ _ => d
def Ty.bs : Ty → List Ty | .mk _ _ _ _ _ b _ => b
def Ty.ns : Ty → List (ByteArray × Int) | .mk _ _ _ _ _ _ n => n

/-- Is a byte within a text? -/
def hasB (s : ByteArray) (c : UInt8) : Bool := decide (0 ≤ Go.Lib.indexByte s.data.toList c)
/-- Is a text a name? -/
def nameB (s : ByteArray) : Bool := decide (1 ≤ s.size) && decide (s.size ≤ 64) && !(s.toList == [46]) && !(s.toList == [46, 46]) && !(hasB s 47) && !(hasB s 0)

theorem nameB_iff (s : ByteArray) : nameB s = true ↔ 1 ≤ s.size ∧ s.size ≤ 64 ∧ s.toList ≠ [46] ∧ s.toList ≠ [46, 46] ∧ hasB s 47 = false ∧ hasB s 0 = false := by
  simp only [nameB, Bool.and_eq_true, decide_eq_true_eq, Bool.not_eq_true', beq_eq_false_iff_ne, and_assoc, ne_eq]
theorem nil_size (s : ByteArray) : s.toList = [] ↔ s.size = 0 := by
  rw [Go.Lib.toList_data, ← List.length_eq_zero_iff, Array.length_toList]; rfl
theorem nil_or (s : ByteArray) : s.toList = [] ∧ s.size < 1 ∨ s.toList ≠ [] ∧ 1 ≤ s.size := by
  have := nil_size s
  by_cases h : s.toList = []
  · exact .inl ⟨h, by have := this.mp h; omega⟩
  · exact .inr ⟨h, by have : s.size ≠ 0 := fun e => h (this.mpr e); omega⟩
theorem hasB_iff (s : ByteArray) (c : UInt8) : hasB s c = true ↔ ∃ i : Nat, s.data.toList[i]? = some c := by
  unfold hasB
  rw [decide_eq_true_eq]
  constructor
  · intro h
    exact ⟨(Go.Lib.indexByte s.data.toList c).toNat, (Go.Lib.indexByte_some (Int.toNat_of_nonneg h).symm).1⟩
  · rintro ⟨i, hi⟩
    rcases Int.lt_or_le (Go.Lib.indexByte s.data.toList c) 0 with h | h
    · have := Go.Lib.indexByte_ge s.data.toList c
      exact absurd hi (Go.Lib.indexByte_none (by omega) i)
    · exact h

theorem byte_at (s : ByteArray) (k : Nat) (h : k < s.size) : s.data.toList[k]? = some s[k] := by
  rw [Array.getElem?_toList]; exact Array.getElem?_eq_getElem h
theorem hasB_at (s : ByteArray) (k : Nat) (h : k < s.size) (c : UInt8) (hc : s[k].toNat = c.toNat) : hasB s c = true :=
  (hasB_iff s c).mpr ⟨k, by rw [byte_at s k h, UInt8.toNat_inj.mp hc]⟩
theorem hasB_no (s : ByteArray) (c : UInt8) (h : ∀ j, j < s.size → s.data.toList[j]? ≠ some c) : hasB s c = false := by
  rw [Bool.eq_false_iff]
  intro hh
  obtain ⟨i, hi⟩ := (hasB_iff s c).mp hh
  rcases Nat.lt_or_ge i s.size with hl | hl
  · exact h i hl hi
  · rw [List.getElem?_eq_none (by rw [Array.length_toList]; exact hl)] at hi; cases hi

/-- A number type that may be. -/
def numB (t : Ty) : Bool := decide (t.fs.length + t.ds.length + t.bs.length + t.ns.length = 0) &&
  ((decide (t.c = 1) || decide (t.c = 2)) && decide (1 ≤ t.w) && decide (t.w ≤ 8) || (decide (t.c = 3) || decide (t.c = 4)) && (decide (t.w = 4) || decide (t.w = 8)))

theorem numB_iff (t : Ty) : numB t = true ↔ t.fs.length + t.ds.length + t.bs.length + t.ns.length = 0 ∧ ((t.c = 1 ∨ t.c = 2) ∧ 1 ≤ t.w ∧ t.w ≤ 8 ∨ (t.c = 3 ∨ t.c = 4) ∧ (t.w = 4 ∨ t.w = 8)) := by
  simp only [numB, Bool.and_eq_true, Bool.or_eq_true, decide_eq_true_eq, and_assoc]
/-- Is v a number of an integer type of class c and width w (1 to 8)? -/
def fitsB (v c w : Int) : Bool :=
  if c = 2 then decide (0 ≤ v) && decide (v < 256 ^ w.toNat)
  else decide (-(256 ^ w.toNat / 2) ≤ v) && decide (v < 256 ^ w.toNat / 2)

open Classical in
noncomputable def flds (S : Ty → Int) (W : Int) : List Fd → List ByteArray → Int → Int
  | [], _, _ => W
  | f :: fs, pre, e => if S f.ty = 0 ∨ nameB f.name = false ∨ f.pos < e ∨ W < f.pos + S f.ty ∨ f.name ∈ pre then 0 else flds S W fs (pre ++ [f.name]) (f.pos + S f.ty)
def dims : List Int → Int → Int
  | [], n => n
  | d :: ds, n => if d < 1 ∨ 256 < d then 0 else dims ds (n * d)
open Classical in
noncomputable def mems (b : Ty) : List (ByteArray × Int) → List (ByteArray × Int) → Int
  | [], _ => b.w
  | m :: ms, pre => if nameB m.1 = false ∨ fitsB m.2 b.c b.w = false ∨ (∃ x ∈ pre, x.1 = m.1 ∨ x.2 = m.2) then 0 else mems b ms (pre ++ [m])
open Classical in
noncomputable def compS (S : Ty → Int) (t : Ty) : Int :=
  if t.big = true ∨ t.ds.length + t.bs.length + t.ns.length ≠ 0 ∨ t.w < 1 ∨ 256 < t.w ∨ t.fs.length = 0 ∨ 16 < t.fs.length then 0 else flds S t.w t.fs [] 0
def arrB (S : Ty → Int) (ds : List Int) : List Ty → Int
  | [b] => dims ds (S b)
  | _ => 0
open Classical in
noncomputable def arrS (S : Ty → Int) (t : Ty) : Int :=
  if t.big = true ∨ t.w ≠ 0 ∨ t.fs.length + t.ns.length ≠ 0 ∨ t.bs.length ≠ 1 ∨ t.ds.length = 0 ∨ 4 < t.ds.length then 0 else arrB S t.ds t.bs
open Classical in
noncomputable def enumB (ns : List (ByteArray × Int)) : List Ty → Int
  | [b] => if (b.c = 1 ∨ b.c = 2) ∧ numB b = true then mems b ns [] else 0
  | _ => 0
open Classical in
noncomputable def enumS (d : Nat) (t : Ty) : Int :=
  if t.big = true ∨ t.w ≠ 0 ∨ t.fs.length + t.ds.length ≠ 0 ∨ t.bs.length ≠ 1 ∨ t.ns.length = 0 ∨ 16 < t.ns.length ∨ d < 1 then 0 else enumB t.ns t.bs
def cap256 (n : Int) : Int := if 256 < n then 0 else n
def numS (t : Ty) : Int := if numB t = true then (if t.c = 4 then 2 * t.w else t.w) else 0
noncomputable def sz : Nat → Ty → Int
  | 0, _ => 0
  | d + 1, t => cap256 (if t.c = 5 then compS (sz d) t else if t.c = 6 then arrS (sz d) t else if t.c = 7 then enumS d t else numS t)
theorem cap256_le (n : Int) : cap256 n ≤ 256 := by unfold cap256; split <;> omega
theorem cap256_ge {n : Int} (h : 0 ≤ n) : 0 ≤ cap256 n := by unfold cap256; split <;> omega
theorem flds_ge {S : Ty → Int} {W : Int} (hW : 0 ≤ W) : ∀ fs pre e, 0 ≤ flds S W fs pre e
  | [], _, _ => hW
  | f :: fs, pre, e => by rw [flds]; split; exact Int.le_refl _; exact flds_ge hW fs _ _
theorem dims_ge : ∀ ds n, 0 ≤ n → 0 ≤ dims ds n
  | [], _, h => h
  | d :: ds, n, h => by
    rw [dims]; split
    · exact Int.le_refl _
    · exact dims_ge ds _ (Int.mul_nonneg h (by omega))
theorem mems_ge {b : Ty} (hb : 0 ≤ b.w) : ∀ ms pre, 0 ≤ mems b ms pre
  | [], _ => hb
  | m :: ms, pre => by rw [mems]; split; exact Int.le_refl _; exact mems_ge hb ms _
theorem sz_le (d : Nat) (t : Ty) : sz d t ≤ 256 := by
  cases d with
  | zero => exact (by omega : (0 : Int) ≤ 256)
  | succ d => exact cap256_le _
theorem sz_ge (d : Nat) : ∀ t : Ty, 0 ≤ sz d t := by
  induction d with
  | zero => intro t; exact Int.le_refl _
  | succ d ih =>
    intro t
    refine cap256_ge ?_
    split
    · unfold compS; split; exact Int.le_refl _; rename_i h; exact flds_ge (by omega) _ _ _
    split
    · unfold arrS; split; exact Int.le_refl _; unfold arrB; split; exact dims_ge _ _ (ih _); exact Int.le_refl _
    split
    · unfold enumS; split; exact Int.le_refl _; unfold enumB; split
      · split
        · rename_i h; have := (numB_iff _).mp h.2; exact mems_ge (by omega) _ _
        · exact Int.le_refl _
      · exact Int.le_refl _
    · unfold numS; split
      · rename_i h; have := (numB_iff _).mp h; split <;> omega
      · exact Int.le_refl _
end Go.Proofs.Ytbdhihgokkcmfaa.Ty9
