/- What the two readers of a type's bytes compute, in plain Lean: total, from a place and whether all went well. -/
import Derived.Test.YtbdhihgokkcmfaaTy
import Derived.Test.YtbdhihgokkcmfaaOf
import Derived.Test.YtbdhihgokkcmfaaJa
namespace Go.Proofs.Ytbdhihgokkcmfaa.Ty9
set_option linter.unusedVariables false
set_option linter.unusedSimpArgs false
open Go.RowKit Wd

/-- A number of n bytes. -/
def nuR (bs : List Nat) (n : Nat) (s : Nat × Bool) : Int × Nat × Bool :=
  if s.1 + n ≤ bs.length then (wrap64 (lval (lows true ((bs.drop s.1).take n)) : Int), s.1 + n, s.2) else (0, s.1, false)
/-- A text. -/
def txR (bs : List Nat) (s : Nat × Bool) : ByteArray × Nat × Bool :=
  if s.1 + 4 ≤ bs.length ∧ lval (lows true ((bs.drop s.1).take 4)) ≤ 65536 ∧ s.1 + 4 + lval (lows true ((bs.drop s.1).take 4)) ≤ bs.length then
    (strOf ((bs.drop (s.1 + 4)).take (lval (lows true ((bs.drop s.1).take 4)))), s.1 + 4 + lval (lows true ((bs.drop s.1).take 4)), s.2) else (⟨#[]⟩, s.1, false)
/-- So many fields, while all goes well. -/
def fdR (bs : List Nat) (f : Nat × Bool → Ty × Nat × Bool) : Nat → Nat × Bool → List Fd × Nat × Bool
  | 0, s => ([], s)
  | n + 1, s => if s.2 = true then
      (.mk (txR bs s).1 (nuR bs 2 (txR bs s).2).1 (f (nuR bs 2 (txR bs s).2).2).1 :: (fdR bs f n (f (nuR bs 2 (txR bs s).2).2).2).1, (fdR bs f n (f (nuR bs 2 (txR bs s).2).2).2).2) else ([], s)
def dmR (bs : List Nat) : Nat → Nat × Bool → List Int × Nat × Bool
  | 0, s => ([], s)
  | n + 1, s => if s.2 = true then ((nuR bs 2 s).1 :: (dmR bs n (nuR bs 2 s).2).1, (dmR bs n (nuR bs 2 s).2).2) else ([], s)
def msR (bs : List Nat) : Nat → Nat × Bool → List (ByteArray × Int) × Nat × Bool
  | 0, s => ([], s)
  | n + 1, s => if s.2 = true then (((txR bs s).1, (nuR bs 8 (txR bs s).2).1) :: (msR bs n (nuR bs 8 (txR bs s).2).2).1, (msR bs n (nuR bs 8 (txR bs s).2).2).2) else ([], s)
def zeroT : Ty := .mk 0 0 false [] [] [] []
/-- A type of at most so many levels. -/
def tkR (bs : List Nat) : Nat → Nat × Bool → Ty × Nat × Bool
  | 0, s => (zeroT, s.1, false)
  | d + 1, s => if s.2 = true then
      if (nuR bs 1 s).1 = 5 then
        (.mk 5 (nuR bs 2 (nuR bs 1 s).2).1 false (fdR bs (tkR bs d) (nuR bs 1 (nuR bs 2 (nuR bs 1 s).2).2).1.toNat (nuR bs 1 (nuR bs 2 (nuR bs 1 s).2).2).2).1 [] [] [],
          (fdR bs (tkR bs d) (nuR bs 1 (nuR bs 2 (nuR bs 1 s).2).2).1.toNat (nuR bs 1 (nuR bs 2 (nuR bs 1 s).2).2).2).2)
      else if (nuR bs 1 s).1 = 6 then
        (.mk 6 0 false [] (dmR bs (nuR bs 1 (nuR bs 1 s).2).1.toNat (nuR bs 1 (nuR bs 1 s).2).2).1 [(tkR bs d (dmR bs (nuR bs 1 (nuR bs 1 s).2).1.toNat (nuR bs 1 (nuR bs 1 s).2).2).2).1] [],
          (tkR bs d (dmR bs (nuR bs 1 (nuR bs 1 s).2).1.toNat (nuR bs 1 (nuR bs 1 s).2).2).2).2)
      else if (nuR bs 1 s).1 = 7 then
        (.mk 7 0 false [] [] [(tkR bs d (nuR bs 1 s).2).1] (msR bs (nuR bs 1 (tkR bs d (nuR bs 1 s).2).2).1.toNat (nuR bs 1 (tkR bs d (nuR bs 1 s).2).2).2).1,
          (msR bs (nuR bs 1 (tkR bs d (nuR bs 1 s).2).2).1.toNat (nuR bs 1 (tkR bs d (nuR bs 1 s).2).2).2).2)
      else (.mk (nuR bs 1 s).1 (nuR bs 1 (nuR bs 1 s).2).1 (decide ((nuR bs 1 (nuR bs 1 (nuR bs 1 s).2).2).1 = 1)) [] [] [] [], (nuR bs 1 (nuR bs 1 (nuR bs 1 s).2).2).2)
    else (zeroT, s.1, false)

/-- The values are bytes, and the place does not leave the bytes. -/
theorem nuR_le (bs : List Nat) (n : Nat) (s : Nat × Bool) (h : s.1 ≤ bs.length) : (nuR bs n s).2.1 ≤ bs.length := by
  unfold nuR; split <;> simp_all
theorem txR_le (bs : List Nat) (s : Nat × Bool) (h : s.1 ≤ bs.length) : (txR bs s).2.1 ≤ bs.length := by
  unfold txR; split <;> simp_all
theorem nuR_byte (bs : List Nat) (hb : ∀ x ∈ bs, x < 256) (n : Nat) (hn : n ≤ 4) (s : Nat × Bool) : 0 ≤ (nuR bs n s).1 ∧ (nuR bs n s).1 < 256 ^ n := by
  have h5 := lval_lt (lows true ((bs.drop s.1).take n)) (fun x hx => hb x (List.mem_of_mem_drop (List.mem_of_mem_take (lows_mem hx))))
  rw [lows_len] at h5
  have h6 : ((bs.drop s.1).take n).length ≤ n := by rw [List.length_take]; omega
  have h7 : (256 : Nat) ^ ((bs.drop s.1).take n).length ≤ 256 ^ n := Nat.pow_le_pow_right (by omega) h6
  have h8 : (256 : Nat) ^ n ≤ 256 ^ 4 := Nat.pow_le_pow_right (by omega) hn
  have h9 : (0 : Int) < (256 : Int) ^ n := Int.pow_pos (by omega)
  have h10 : ((256 ^ n : Nat) : Int) = (256 : Int) ^ n := by simp
  unfold nuR
  split
  · rw [show wrap64 ((lval (lows true ((bs.drop s.1).take n)) : Nat) : Int) = ((lval (lows true ((bs.drop s.1).take n)) : Nat) : Int) from by unfold wrap64; omega]
    omega
  · exact ⟨Int.le_refl _, h9⟩
theorem nuR_i64 (bs : List Nat) (n : Nat) (s : Nat × Bool) : -9223372036854775808 ≤ (nuR bs n s).1 ∧ (nuR bs n s).1 ≤ 9223372036854775807 := by
  unfold nuR
  split
  · simp only []; unfold wrap64; omega
  · simp only []; omega
theorem strOf_size (l : List Nat) : (strOf l).size = l.length := by simp [strOf, ByteArray.size]
theorem txR_size (bs : List Nat) (s : Nat × Bool) : (txR bs s).1.size ≤ 140737488355328 := by
  unfold txR
  split
  · next h => rw [strOf_size, List.length_take]; omega
  · exact Nat.zero_le _
theorem fdR_le (bs : List Nat) (f : Nat × Bool → Ty × Nat × Bool) (hf : ∀ s, s.1 ≤ bs.length → (f s).2.1 ≤ bs.length) : ∀ (n : Nat) (s : Nat × Bool), s.1 ≤ bs.length → (fdR bs f n s).2.1 ≤ bs.length
  | 0, s, h => h
  | n + 1, s, h => by
    unfold fdR
    split
    · exact fdR_le bs f hf n _ (hf _ (nuR_le bs 2 _ (txR_le bs s h)))
    · exact h
theorem dmR_le (bs : List Nat) : ∀ (n : Nat) (s : Nat × Bool), s.1 ≤ bs.length → (dmR bs n s).2.1 ≤ bs.length
  | 0, s, h => h
  | n + 1, s, h => by
    unfold dmR
    split
    · exact dmR_le bs n _ (nuR_le bs 2 _ h)
    · exact h
theorem msR_le (bs : List Nat) : ∀ (n : Nat) (s : Nat × Bool), s.1 ≤ bs.length → (msR bs n s).2.1 ≤ bs.length
  | 0, s, h => h
  | n + 1, s, h => by
    unfold msR
    split
    · exact msR_le bs n _ (nuR_le bs 8 _ (txR_le bs s h))
    · exact h
theorem tkR_le (bs : List Nat) : ∀ (d : Nat) (s : Nat × Bool), s.1 ≤ bs.length → (tkR bs d s).2.1 ≤ bs.length
  | 0, s, h => h
  | d + 1, s, h => by
    have h1 := nuR_le bs 1 s h
    unfold tkR
    split
    · split
      · exact fdR_le bs _ (tkR_le bs d) _ _ (nuR_le bs 1 _ (nuR_le bs 2 _ h1))
      · split
        · exact tkR_le bs d _ (dmR_le bs _ _ (nuR_le bs 1 _ h1))
        · split
          · exact msR_le bs _ _ (nuR_le bs 1 _ (tkR_le bs d _ h1))
          · exact nuR_le bs 1 _ (nuR_le bs 1 _ h1)
    · exact h
/-- While nothing went wrong. -/
theorem tkR_bad (bs : List Nat) (d : Nat) (s : Nat × Bool) (h : s.2 = false) : tkR bs d s = (zeroT, s.1, false) := by
  cases d with
  | zero => rfl
  | succ d => rw [tkR, if_neg (by simp [h])]
/-- One level, from what its parts are. -/
theorem tkR_5 {bs : List Nat} {d p q1 q2 q3 q k : Nat} {f1 f2 f3 f : Bool} {wd : Int} {fs : List Fd} (h1 : nuR bs 1 (p, true) = (5, q1, f1)) (h2 : nuR bs 2 (q1, f1) = (wd, q2, f2)) (h3 : nuR bs 1 (q2, f2) = ((k : Int), q3, f3)) (h4 : fdR bs (tkR bs d) k (q3, f3) = (fs, q, f)) :
    tkR bs (d + 1) (p, true) = (.mk 5 wd false fs [] [] [], q, f) := by
  rw [tkR, if_pos rfl, h1]
  dsimp only
  rw [if_pos rfl, h2]
  dsimp only
  rw [h3]
  dsimp only
  rw [Int.toNat_natCast, h4]
theorem tkR_6 {bs : List Nat} {d p q1 q2 q3 q k : Nat} {f1 f2 f3 f : Bool} {ds : List Int} {t : Ty} (h1 : nuR bs 1 (p, true) = (6, q1, f1)) (h2 : nuR bs 1 (q1, f1) = ((k : Int), q2, f2)) (h3 : dmR bs k (q2, f2) = (ds, q3, f3)) (h4 : tkR bs d (q3, f3) = (t, q, f)) :
    tkR bs (d + 1) (p, true) = (.mk 6 0 false [] ds [t] [], q, f) := by
  rw [tkR, if_pos rfl, h1]
  dsimp only
  rw [if_neg (by decide), if_pos rfl, h2]
  dsimp only
  rw [Int.toNat_natCast, h3]
  dsimp only
  rw [h4]
theorem tkR_7 {bs : List Nat} {d p q1 q2 q3 q k : Nat} {f1 f2 f3 f : Bool} {ns : List (ByteArray × Int)} {t : Ty} (h1 : nuR bs 1 (p, true) = (7, q1, f1)) (h2 : tkR bs d (q1, f1) = (t, q2, f2)) (h3 : nuR bs 1 (q2, f2) = ((k : Int), q3, f3)) (h4 : msR bs k (q3, f3) = (ns, q, f)) :
    tkR bs (d + 1) (p, true) = (.mk 7 0 false [] [] [t] ns, q, f) := by
  rw [tkR, if_pos rfl, h1]
  dsimp only
  rw [if_neg (by decide), if_neg (by decide), if_pos rfl, h2]
  dsimp only
  rw [h3]
  dsimp only
  rw [Int.toNat_natCast, h4]
theorem tkR_0 {bs : List Nat} {d p q1 q2 q : Nat} {f1 f2 f : Bool} {v wd x : Int} (n5 : v ≠ 5) (n6 : v ≠ 6) (n7 : v ≠ 7) (h1 : nuR bs 1 (p, true) = (v, q1, f1)) (h2 : nuR bs 1 (q1, f1) = (wd, q2, f2)) (h3 : nuR bs 1 (q2, f2) = (x, q, f)) :
    tkR bs (d + 1) (p, true) = (.mk v wd (decide (x = 1)) [] [] [] [], q, f) := by
  rw [tkR, if_pos rfl, h1]
  dsimp only
  rw [if_neg n5, if_neg n6, if_neg n7, h2]
  dsimp only
  rw [h3]
theorem fdR_stop (bs : List Nat) (g : Nat × Bool → Ty × Nat × Bool) (k q : Nat) : fdR bs g k (q, false) = ([], q, false) := by
  cases k with
  | zero => rfl
  | succ k => rw [fdR, if_neg (by simp)]
theorem dmR_stop (bs : List Nat) (k q : Nat) : dmR bs k (q, false) = ([], q, false) := by
  cases k with
  | zero => rfl
  | succ k => rw [dmR, if_neg (by simp)]
theorem msR_stop (bs : List Nat) (k q : Nat) : msR bs k (q, false) = ([], q, false) := by
  cases k with
  | zero => rfl
  | succ k => rw [msR, if_neg (by simp)]
theorem fdR_go {bs : List Nat} {g : Nat × Bool → Ty × Nat × Bool} {k q q1 q2 q3 : Nat} {f1 f2 f3 : Bool} {x : ByteArray} {y : Int} {t : Ty} (h1 : txR bs (q, true) = (x, q1, f1)) (h2 : nuR bs 2 (q1, f1) = (y, q2, f2)) (h3 : g (q2, f2) = (t, q3, f3)) :
    fdR bs g (k + 1) (q, true) = (.mk x y t :: (fdR bs g k (q3, f3)).1, (fdR bs g k (q3, f3)).2) := by
  rw [fdR, if_pos rfl, h1]
  dsimp only
  rw [h2]
  dsimp only
  rw [h3]
theorem dmR_go {bs : List Nat} {k q q1 : Nat} {f1 : Bool} {y : Int} (h1 : nuR bs 2 (q, true) = (y, q1, f1)) : dmR bs (k + 1) (q, true) = (y :: (dmR bs k (q1, f1)).1, (dmR bs k (q1, f1)).2) := by
  rw [dmR, if_pos rfl, h1]
theorem msR_go {bs : List Nat} {k q q1 q2 : Nat} {f1 f2 : Bool} {x : ByteArray} {y : Int} (h1 : txR bs (q, true) = (x, q1, f1)) (h2 : nuR bs 8 (q1, f1) = (y, q2, f2)) :
    msR bs (k + 1) (q, true) = ((x, y) :: (msR bs k (q2, f2)).1, (msR bs k (q2, f2)).2) := by
  rw [msR, if_pos rfl, h1]
  dsimp only
  rw [h2]
end Go.Proofs.Ytbdhihgokkcmfaa.Ty9
