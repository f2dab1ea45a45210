/- The document's example; the law's pair. -/
import Derived.Test.YtbdhihgokkcmfaaLg
namespace Go.Proofs.Ytbdhihgokkcmfaa.Ty9
set_option linter.unusedVariables false
set_option linter.unusedSimpArgs false
open Go.RowKit Wd

def numT (c w : Int) : Ty := .mk c w false [] [] [] []
def pairT (w : Int) : Ty := .mk 5 w false [.mk ⟨#[97]⟩ 0 (numT 2 2), .mk ⟨#[98]⟩ 4 (numT 4 4)] [] [] []
theorem numT_at {w : World} {B : Nat} (c k : Int) : TyAt w B (numT c k) (.agg #[.int .i64 c, .int .i64 k, .bool false, .slice none 0 0, .slice none 0 0, .slice none 0 0, .slice none 0 0]) :=
  .mk c k false [] [] [] [] none none none none 0 0 0 0 0 0 0 0 0 0 0 0 (fun _ _ => default) (fun _ _ => default) (Nat.zero_le _) (Nat.zero_le _) (Nat.zero_le _) (Nat.zero_le _)
    (fun f hf => absurd hf (List.not_mem_nil)) (fun f hf => absurd hf (List.not_mem_nil)) (fun f hf => absurd hf (List.not_mem_nil)) ⟨Nat.le_refl _, Nat.le_refl _, Nat.le_refl _, Nat.le_refl _⟩
    (fun h => absurd h (Nat.lt_irrefl _)) (fun h => absurd h (Nat.lt_irrefl _)) (fun h => absurd h (Nat.lt_irrefl _)) (fun h => absurd h (Nat.lt_irrefl _))
    (fun i h => absurd h (Nat.not_lt_zero _)) (fun i h => absurd h (Nat.not_lt_zero _)) (fun i h => absurd h (Nat.not_lt_zero _)) (fun i h => absurd h (Nat.not_lt_zero _)) (fun i h => absurd h (Nat.not_lt_zero _)) (fun i h => absurd h (Nat.not_lt_zero _))
    (fun i h => absurd h (Nat.not_lt_zero _)) (fun i h => absurd h (Nat.not_lt_zero _)) (fun i h => absurd h (Nat.not_lt_zero _))
def pairCells : Array Value := #[.string ⟨#[97]⟩, .int .i64 0, .int .i64 2, .int .i64 2, .bool false, .slice none 0 0, .slice none 0 0, .slice none 0 0, .slice none 0 0,
  .string ⟨#[98]⟩, .int .i64 4, .int .i64 4, .int .i64 4, .bool false, .slice none 0 0, .slice none 0 0, .slice none 0 0, .slice none 0 0]
theorem pairT_at {w : World} {B g : Nat} (hg : g < B) (k : Int) (hb : Bx w g 66 pairCells) : TyAt w B (pairT k) (.agg #[.int .i64 5, .int .i64 k, .bool false, .slice (some ⟨g, 0, none⟩) 2 2, .slice none 0 0, .slice none 0 0, .slice none 0 0]) := by
  refine .mk 5 k false _ [] [] [] (some ⟨g, 0, none⟩) none none none 2 0 0 0 g 0 0 0 0 0 0 0 (fun i j => pairCells[i * 9 + 2 + j]!) (fun _ _ => default) (by simp) (Nat.zero_le _) (Nat.zero_le _) (Nat.zero_le _)
    ?_ (fun f hf => absurd hf (List.not_mem_nil)) (fun f hf => absurd hf (List.not_mem_nil)) ⟨Nat.le_refl _, Nat.le_refl _, Nat.le_refl _, Nat.le_refl _⟩
    (fun _ => ⟨rfl, hg⟩) (fun h => absurd h (Nat.lt_irrefl _)) (fun h => absurd h (Nat.lt_irrefl _)) (fun h => absurd h (Nat.lt_irrefl _)) ?_ ?_ ?_ ?_
    (fun i h => absurd h (Nat.not_lt_zero _)) (fun i h => absurd h (Nat.not_lt_zero _)) (fun i h => absurd h (Nat.not_lt_zero _)) (fun i h => absurd h (Nat.not_lt_zero _)) (fun i h => absurd h (Nat.not_lt_zero _))
  · intro f hf
    simp only [List.mem_cons, List.not_mem_nil, or_false] at hf
    rcases hf with rfl | rfl <;> decide
  · intro i hi
    match i, hi with
    | 0, _ => exact hb.cell 0
    | 1, _ => exact hb.cell 9
  · intro i hi
    match i, hi with
    | 0, _ => exact hb.cell 1
    | 1, _ => exact hb.cell 10
  · intro i hi j hj
    match i, hi with
    | 0, _ =>
      match j, hj with
      | 0, _ => exact hb.cell 2
      | 1, _ => exact hb.cell 3
      | 2, _ => exact hb.cell 4
      | 3, _ => exact hb.cell 5
      | 4, _ => exact hb.cell 6
      | 5, _ => exact hb.cell 7
      | 6, _ => exact hb.cell 8
    | 1, _ =>
      match j, hj with
      | 0, _ => exact hb.cell 11
      | 1, _ => exact hb.cell 12
      | 2, _ => exact hb.cell 13
      | 3, _ => exact hb.cell 14
      | 4, _ => exact hb.cell 15
      | 5, _ => exact hb.cell 16
      | 6, _ => exact hb.cell 17
  · intro i hi
    match i, hi with
    | 0, _ => exact numT_at 2 2
    | 1, _ => exact numT_at 4 4

theorem sz_int3 : sz 4 (numT 1 3) = 3 := by
  rw [sz_num (by decide) (by decide) (by decide)]; rfl
theorem sz_u2 : sz 3 (numT 2 2) = 2 := by
  rw [sz_num (by decide) (by decide) (by decide)]; rfl
theorem sz_c4 : sz 3 (numT 4 4) = 8 := by
  rw [sz_num (by decide) (by decide) (by decide)]; rfl
theorem name_one (c : UInt8) (h1 : c ≠ 46) (h2 : c ≠ 47) (h3 : c ≠ 0) : nameB ⟨#[c]⟩ = true := by
  have hl : (⟨#[c]⟩ : ByteArray).toList = [c] := by rw [Go.Lib.toList_data]
  have hb : ∀ x : UInt8, c ≠ x → hasB ⟨#[c]⟩ x = false := by
    intro x hx
    refine hasB_no _ _ fun j hj => ?_
    have hj1 : j < 1 := hj
    obtain rfl : j = 0 := by omega
    show some c ≠ some x
    intro e
    exact hx (Option.some.inj e)
  rw [nameB_iff, hl]
  refine ⟨Nat.le_refl 1, show 1 ≤ 64 by omega, fun e => h1 ?_, fun e => by simp at e, hb 47 h2, hb 0 h3⟩
  simpa using e
theorem name_a : nameB ⟨#[97]⟩ = true := name_one 97 (by decide) (by decide) (by decide)
theorem name_b : nameB ⟨#[98]⟩ = true := name_one 98 (by decide) (by decide) (by decide)
theorem ab_ne : (⟨#[97]⟩ : ByteArray) ≠ ⟨#[98]⟩ := by decide
theorem pair_flds (w : Int) : flds (sz 3) w [.mk ⟨#[97]⟩ 0 (numT 2 2), .mk ⟨#[98]⟩ 4 (numT 4 4)] [] 0 = if w < 12 then 0 else w := by
  rw [flds]
  by_cases h : w < 2
  · rw [if_pos (by show _ ∨ _ ∨ _ ∨ w < 0 + sz 3 (numT 2 2) ∨ _; rw [sz_u2]; omega), if_pos (by omega)]
  · rw [if_neg, flds]
    · by_cases h2 : w < 12
      · rw [if_pos (by show _ ∨ _ ∨ _ ∨ w < 4 + sz 3 (numT 4 4) ∨ _; rw [sz_c4]; omega), if_pos h2]
      · rw [if_neg, flds, if_neg h2]
        show ¬(sz 3 (numT 4 4) = 0 ∨ nameB ⟨#[98]⟩ = false ∨ (4 : Int) < 0 + sz 3 (numT 2 2) ∨ w < 4 + sz 3 (numT 4 4) ∨ (⟨#[98]⟩ : ByteArray) ∈ [(⟨#[97]⟩ : ByteArray)])
        rw [sz_c4, sz_u2, name_b]
        rintro (x | x | x | x | x)
        · omega
        · cases x
        · omega
        · omega
        · exact ab_ne (List.mem_singleton.mp x).symm
    · show ¬(sz 3 (numT 2 2) = 0 ∨ nameB ⟨#[97]⟩ = false ∨ (0 : Int) < 0 ∨ w < 0 + sz 3 (numT 2 2) ∨ (⟨#[97]⟩ : ByteArray) ∈ ([] : List ByteArray))
      rw [sz_u2, name_a]
      rintro (x | x | x | x | x)
      · omega
      · cases x
      · omega
      · omega
      · exact absurd x (List.not_mem_nil)
theorem sz_pair (w : Int) (h1 : 1 ≤ w) (h2 : w ≤ 256) : sz 4 (pairT w) = if w < 12 then 0 else w := by
  rw [sz, if_pos (show (pairT w).c = 5 from rfl)]
  have e : compS (sz 3) (pairT w) = flds (sz 3) w [.mk ⟨#[97]⟩ 0 (numT 2 2), .mk ⟨#[98]⟩ 4 (numT 4 4)] [] 0 := by
    unfold compS
    rw [if_neg]
    · rfl
    show ¬(false = true ∨ 0 + 0 + 0 ≠ 0 ∨ w < 1 ∨ 256 < w ∨ 2 = 0 ∨ 16 < 2)
    rintro (x | x | x | x | x | x)
    · cases x
    all_goals omega
  rw [e, pair_flds]
  unfold cap256
  split <;> split <;> omega
theorem pls_pair (w : Int) : pls (pairT w) 0 = [⟨0, 2, 2, false⟩, ⟨4, 3, 4, false⟩, ⟨8, 3, 4, false⟩] := by
  rw [pls_comp rfl]
  show plf [.mk ⟨#[97]⟩ 0 (numT 2 2), .mk ⟨#[98]⟩ 4 (numT 4 4)] 0 = _
  rw [plf_cons, plf_cons, plf, num_len (by decide) (by decide) (by decide), num_len (by decide) (by decide) (by decide)]
  rfl
theorem lb_int3 : lb (numT 1 3) = [1, 3, 0] := by
  rw [lb_num (by decide) (by decide) (by decide)]; rfl

set_option maxHeartbeats 2000000 in
set_option maxRecDepth 100000 in
theorem pair_any (k : Int) (w : World) :
    Calls Try.prog 32 #[.int .i64 k] w fun e w' => ∃ v, e = .returned v ∧ TyAt w' w'.heap.size (pairT k) v ∧ Below w.heap.size w w' := by
  go_enter Try.func32, Try.ntmps32
  go_wp2
  refine bodyPost_ret (v := .agg #[.int .i64 5, .int .i64 k, .bool false, .slice (some ⟨w.heap.size + 1, 0, none⟩) 2 2, .slice none 0 0, .slice none 0 0, .slice none 0 0]) (by simp [results, Try.results32, go_sem]) rfl ⟨_, rfl, ?_, ?_⟩
  · exact pairT_at (by simp) k (Bx.new2 _ _ _ _)
  · exact below_more (below_new _ _) (below_new _ _)
end Go.Proofs.Ytbdhihgokkcmfaa.Ty9
