/- number.Trunc: what it tells. -/
import Derived.Test.YtmhgbpgilhboeaaRt
namespace Go.Proofs.Ytmhgbpgilhboeaa.Pa
set_option linter.unusedVariables false
set_option linter.unusedSimpArgs false
open Go.RowKit Wd Ra Fl Go.Proofs.Ytmhgbpgilhboeaa.Math10

/-! math.Trunc -/
theorem ext47_run (n : Nat) (w : World) : (callFunc 47 #[.float .f64 n]).run Try.prog w = ((Extern.MathFloor.toIntegral "math.archTrunc" .zero #[.float .f64 n]).run Try.prog w).andThen fun v w' => .ok (.value v) w' := by
  rw [run_callFunc_extern Try.func47 (by kernel_rfl) (by kernel_rfl) (by kernel_rfl) (e := Extern.MathFloor.toIntegral "math.archTrunc" .zero) (by kernel_rfl)]
theorem toI_eq (n : Nat) : Extern.MathFloor.toIntegral "math.archTrunc" .zero #[.float .f64 n] = (match FloatKind.f64.decode n with
    | .nan s t => if FloatKind.f64.format.quiet t = t then pure (.float .f64 n) else do
      let kept ← choose (.extern "math.Floor,Ceil,Trunc,RoundToEven.signallingNaN kept" 2)
      pure (.float .f64 (if kept == 1 then n else FloatKind.f64.encode (.nan s (FloatKind.f64.format.quiet t))))
    | d => pure (.float .f64 (FloatKind.f64.encode (d.integral .zero)))) := rfl
theorem ext47 (n : Nat) (w : World) (h : (Ieee.double.read n).isNaN = false) :
    (callFunc 47 #[.float .f64 n]).run Try.prog w = .ok (.value (.float .f64 (Ieee.double.write ((Ieee.double.read n).integral .zero)))) w := by
  rw [ext47_run]
  rw [toI_eq, show FloatKind.f64.decode n = Ieee.double.read n from rfl]
  cases hr : Ieee.double.read n with
  | nan s t => rw [hr] at h; cases h
  | infinity s => rfl
  | number s a e => rfl
theorem ext47_nan (n : Nat) (w : World) (h : (Ieee.double.read n).isNaN = true) :
    ∃ n' w', (callFunc 47 #[.float .f64 n]).run Try.prog w = .ok (.value (.float .f64 n')) w' ∧ (Ieee.double.read n').isNaN = true ∧ Dr w w' := by
  rw [ext47_run]
  rw [toI_eq, show FloatKind.f64.decode n = Ieee.double.read n from rfl]
  cases hr : Ieee.double.read n with
  | infinity s => rw [hr] at h; cases h
  | number s a e => rw [hr] at h; cases h
  | nan s t =>
    simp only
    by_cases hq : FloatKind.f64.format.quiet t = t
    · rw [if_pos hq]
      exact ⟨n, w, rfl, h, Dr.refl _⟩
    · rw [if_neg hq]
      obtain ⟨k, w', hk, hd⟩ : ∃ k w', (choose (.extern "math.Floor,Ceil,Trunc,RoundToEven.signallingNaN kept" 2)).run Try.prog w = .ok k w' ∧ Dr w w' := by
        rw [run_choose_drew]
        split
        · exact ⟨_, _, rfl, Dr.refl _⟩
        · exact ⟨_, _, rfl, Dr.step (Dr.refl w) 1⟩
      refine ⟨if k == 1 then n else FloatKind.f64.encode (.nan s (FloatKind.f64.format.quiet t)), w', ?_, ?_, hd⟩
      · rw [Sem.run_bind, hk]; rfl
      · split
        · exact h
        · exact nan_quiet s t
theorem mtrunc (n : Nat) (w : World) (h : (Ieee.double.read n).isNaN = false) :
    Calls Try.prog 36 #[.float .f64 n] w fun e w' => e = .returned (.float .f64 (Ieee.double.write ((Ieee.double.read n).integral .zero))) ∧ Dr w w' := by
  have hx := ext47 n w h
  generalize Ieee.double.write ((Ieee.double.read n).integral .zero) = r at *
  clear h
  go_enter Try.func36, Try.ntmps36
  go_wp2
  go_ret
  exact ⟨rfl, Dr.refl _⟩
theorem mtrunc_nan (n : Nat) (w : World) (h : (Ieee.double.read n).isNaN = true) :
    Calls Try.prog 36 #[.float .f64 n] w fun e w' => ∃ n', e = .returned (.float .f64 n') ∧ (FloatKind.f64.format.order n' n' != some .eq) = true ∧ Dr w w' := by
  obtain ⟨n', w', hx, hn', hd⟩ := ext47_nan n w h
  have HN := Lib.hid hn'
  have HD := Lib.hid hd
  clear h hn' hd
  go_enter Try.func36, Try.ntmps36
  go_wp2
  go_ret
  exact ⟨n', rfl, (isNaN_order Ieee.double n').trans HN.out, HD.out⟩

/-- some NaN of 8 bytes, drawn. -/
def drawnNaN (b : Nat) (W : World) : Nat := (Question.nanConv .f64 b).cut (W.tape W.drawn (.nanConv .f64 b))
theorem drawnNaN_nan (b : Nat) (W : World) : (Ieee.double.read (drawnNaN b W)).isNaN = true := nan_bits _
theorem conv_nan (b : Nat) (s : Bool) (t : Nat) (h : Ieee.single.read b = .nan s t) (W : World) :
    (convert 51 49 (.float .f32 b)).run Try.prog W = .ok (.float .f64 (drawnNaN b W)) W.drew := by
  simp only [convert]
  simp [run_underlying Try.underlying51, run_underlying Try.underlying49, Conv.floatToFloat, show FloatKind.f32.decode b = .nan s t from h]
  rfl

theorem trunc_no (bits fr width : Int) (sign : Bool) (w : World) (h : (fr ≠ 4 ∧ fr ≠ 8) ∨ width < 1 ∨ 8 < width) :
    Calls Try.prog 34 #[.int .u64 bits, .int .i64 fr, .int .i64 width, .bool sign] w fun e w' => e = .returned (.tuple #[.int .u64 0, .int .i64 2]) ∧ Dr w w' := by
  by_cases h1 : fr = 4
  · subst h1
    have HH : Hid (width < 1 ∨ 8 < width) := Lib.hid (by omega)
    clear h
    go_enter Try.func34, Try.ntmps34
    go_wp2_with (go_at_call 38; refine (right_no _ _ HH.out).mono ?_; rintro e w' ⟨rfl, ⟨nd, rfl⟩⟩)
    go_ret2
    exact ⟨rfl, Dr.step (Dr.refl _) _⟩
  · by_cases h2 : fr = 8
    · subst h2
      have HH : Hid (width < 1 ∨ 8 < width) := Lib.hid (by omega)
      clear h
      go_enter Try.func34, Try.ntmps34
      go_wp2_with (go_at_call 38; refine (right_no _ _ HH.out).mono ?_; rintro e w' ⟨rfl, ⟨nd, rfl⟩⟩)
      go_ret2
      exact ⟨rfl, Dr.step (Dr.refl _) _⟩
    · have n4 : (fr != 4) = true := by rw [bne_iff_ne]; exact h1
      have n8 : (fr != 8) = true := by rw [bne_iff_ne]; exact h2
      clear h h1 h2
      go_enter Try.func34, Try.ntmps34
      go_wp2
      go_ret2
      exact ⟨rfl, Dr.refl _⟩
theorem trunc_big (bits : Int) (m : Nat) (sign : Bool) (w : World) (h0 : 1 ≤ m) (h1 : m ≤ 8) (hb : 4294967296 ≤ bits) (hb2 : bits ≤ 18446744073709551615) :
    Calls Try.prog 34 #[.int .u64 bits, .int .i64 4, .int .i64 m, .bool sign] w fun e w' => e = .returned (.tuple #[.int .u64 0, .int .i64 3]) ∧ Dr w w' := by
  have hs : (bits / 4294967296 != 0) = true := by rw [bne_iff_ne]; omega
  have hB := Lib.hid hb
  have hb0 : 0 ≤ bits := by omega
  clear hb
  go_enter Try.func34, Try.ntmps34
  go_wp2_with (go_at_call 38; refine (right_yes _ _ (by omega) (by omega)).mono ?_; rintro e w' ⟨rfl, ⟨nd, rfl⟩⟩)
  go_ret2
  exact ⟨rfl, Dr.step (Dr.refl _) _⟩


set_option maxHeartbeats 1000000 in
set_option maxRecDepth 100000 in
theorem trunc8_a (bits F : Nat) (m : Nat) (sign : Bool) (lst most : Int) (w : World) (h0 : 1 ≤ m) (h1 : m ≤ 8) (hb : (bits : Int) ≤ 18446744073709551615)
    (HE : Hid (∀ W : World, Calls Try.prog 39 #[.int .i64 m, .bool sign] W fun e w' => e = .returned (.tuple #[.int .i64 lst, .int .u64 most]) ∧ Dr W w'))
    (HT : Hid (∀ W : World, Calls Try.prog 36 #[.float .f64 bits] W fun e w' => e = .returned (.float .f64 F) ∧ Dr W w'))
    (bn : (FloatKind.f64.format.order F F != some .eq) = false) (b1 : (FloatKind.f64.format.order F 0 == some .lt) = true) (b2 : (FloatKind.f64.format.order F (floatOfInt .f64 lst) == some .lt || FloatKind.f64.format.order F (floatOfInt .f64 lst) == some .eq) = true) :
    Calls Try.prog 34 #[.int .u64 bits, .int .i64 8, .int .i64 m, .bool sign] w fun e w' => e = .returned (.tuple #[.int .u64 (lst % pw (8 * m)), .int .i64 0]) ∧ Dr w w' := by
  have hx30 := ext30 bits
  have hx31 := ext31 bits
  simp only [Int.toNat_natCast] at hx30 hx31
  have hc := fun W => run_convert_int_float (P := Try.prog) W 3 49 .i64 .f64 lst (by rw [Try.underlying3]; rfl) Try.underlying49
  generalize floatOfInt .f64 lst = L at *
  go_enter Try.func34, Try.ntmps34
  go_wp2_with (first
    | (go_at_call 38; refine (right_yes _ _ (by omega) (by omega)).mono ?_; rintro e w' ⟨rfl, ⟨nd, rfl⟩⟩)
    | (go_at_call 39; refine (HE.out _).mono ?_; rintro e w' ⟨rfl, ⟨nd, rfl⟩⟩)
    | (go_at_call 36; refine (HT.out _).mono ?_; rintro e w' ⟨rfl, ⟨nd, rfl⟩⟩)
    | (go_at_call 40; refine (cut_any _ _ _ h0 h1).mono ?_; rintro e w' ⟨rfl, ⟨nd, rfl⟩⟩))
  all_goals
    go_ret2
    exact ⟨by first | rfl | (simp [*]; done), by repeat (first | exact Dr.refl _ | apply Dr.step)⟩

set_option maxHeartbeats 1000000 in
set_option maxRecDepth 100000 in
theorem trunc8_b (bits F : Nat) (m : Nat) (sign : Bool) (lst most : Int) (w : World) (h0 : 1 ≤ m) (h1 : m ≤ 8) (hb : (bits : Int) ≤ 18446744073709551615)
    (HE : Hid (∀ W : World, Calls Try.prog 39 #[.int .i64 m, .bool sign] W fun e w' => e = .returned (.tuple #[.int .i64 lst, .int .u64 most]) ∧ Dr W w'))
    (HT : Hid (∀ W : World, Calls Try.prog 36 #[.float .f64 bits] W fun e w' => e = .returned (.float .f64 F) ∧ Dr W w'))
    (bn : (FloatKind.f64.format.order F F != some .eq) = false) (b1 : (FloatKind.f64.format.order F 0 == some .lt) = true) (b2 : (FloatKind.f64.format.order F (floatOfInt .f64 lst) == some .lt || FloatKind.f64.format.order F (floatOfInt .f64 lst) == some .eq) = false) (v : Int) (hv : floatToIntVal .f64 F .i64 = some v) :
    Calls Try.prog 34 #[.int .u64 bits, .int .i64 8, .int .i64 m, .bool sign] w fun e w' => e = .returned (.tuple #[.int .u64 (v % pw (8 * m)), .int .i64 0]) ∧ Dr w w' := by
  have hx30 := ext30 bits
  have hx31 := ext31 bits
  simp only [Int.toNat_natCast] at hx30 hx31
  have hcv := fun W => run_convert_float_int (P := Try.prog) W 49 3 .f64 .i64 F v (by rw [Try.underlying49]; rfl) Try.underlying3 hv
  clear hv
  have hc := fun W => run_convert_int_float (P := Try.prog) W 3 49 .i64 .f64 lst (by rw [Try.underlying3]; rfl) Try.underlying49
  generalize floatOfInt .f64 lst = L at *
  go_enter Try.func34, Try.ntmps34
  go_wp2_with (first
    | (go_at_call 38; refine (right_yes _ _ (by omega) (by omega)).mono ?_; rintro e w' ⟨rfl, ⟨nd, rfl⟩⟩)
    | (go_at_call 39; refine (HE.out _).mono ?_; rintro e w' ⟨rfl, ⟨nd, rfl⟩⟩)
    | (go_at_call 36; refine (HT.out _).mono ?_; rintro e w' ⟨rfl, ⟨nd, rfl⟩⟩)
    | (go_at_call 40; refine (cut_any _ _ _ h0 h1).mono ?_; rintro e w' ⟨rfl, ⟨nd, rfl⟩⟩))
  all_goals
    go_ret2
    exact ⟨by first | rfl | (simp [*]; done), by repeat (first | exact Dr.refl _ | apply Dr.step)⟩

set_option maxHeartbeats 1000000 in
set_option maxRecDepth 100000 in
theorem trunc8_c (bits F : Nat) (m : Nat) (sign : Bool) (lst most : Int) (w : World) (h0 : 1 ≤ m) (h1 : m ≤ 8) (hb : (bits : Int) ≤ 18446744073709551615)
    (HE : Hid (∀ W : World, Calls Try.prog 39 #[.int .i64 m, .bool sign] W fun e w' => e = .returned (.tuple #[.int .i64 lst, .int .u64 most]) ∧ Dr W w'))
    (HT : Hid (∀ W : World, Calls Try.prog 36 #[.float .f64 bits] W fun e w' => e = .returned (.float .f64 F) ∧ Dr W w'))
    (bn : (FloatKind.f64.format.order F F != some .eq) = false) (b1 : (FloatKind.f64.format.order F 0 == some .lt) = false) (b3 : (FloatKind.f64.format.order F 4895412794951729152 == some .gt || FloatKind.f64.format.order F 4895412794951729152 == some .eq) = true) :
    Calls Try.prog 34 #[.int .u64 bits, .int .i64 8, .int .i64 m, .bool sign] w fun e w' => e = .returned (.tuple #[.int .u64 (most), .int .i64 0]) ∧ Dr w w' := by
  have hx30 := ext30 bits
  have hx31 := ext31 bits
  simp only [Int.toNat_natCast] at hx30 hx31
  have hc := fun W => run_convert_int_float (P := Try.prog) W 3 49 .i64 .f64 lst (by rw [Try.underlying3]; rfl) Try.underlying49
  generalize floatOfInt .f64 lst = L at *
  go_enter Try.func34, Try.ntmps34
  go_wp2_with (first
    | (go_at_call 38; refine (right_yes _ _ (by omega) (by omega)).mono ?_; rintro e w' ⟨rfl, ⟨nd, rfl⟩⟩)
    | (go_at_call 39; refine (HE.out _).mono ?_; rintro e w' ⟨rfl, ⟨nd, rfl⟩⟩)
    | (go_at_call 36; refine (HT.out _).mono ?_; rintro e w' ⟨rfl, ⟨nd, rfl⟩⟩)
    | (go_at_call 40; refine (cut_any _ _ _ h0 h1).mono ?_; rintro e w' ⟨rfl, ⟨nd, rfl⟩⟩))
  all_goals
    go_ret2
    exact ⟨by first | rfl | (simp [*]; done), by repeat (first | exact Dr.refl _ | apply Dr.step)⟩

set_option maxHeartbeats 1000000 in
set_option maxRecDepth 100000 in
theorem trunc8_d (bits F : Nat) (m : Nat) (sign : Bool) (lst most : Int) (w : World) (h0 : 1 ≤ m) (h1 : m ≤ 8) (hb : (bits : Int) ≤ 18446744073709551615)
    (HE : Hid (∀ W : World, Calls Try.prog 39 #[.int .i64 m, .bool sign] W fun e w' => e = .returned (.tuple #[.int .i64 lst, .int .u64 most]) ∧ Dr W w'))
    (HT : Hid (∀ W : World, Calls Try.prog 36 #[.float .f64 bits] W fun e w' => e = .returned (.float .f64 F) ∧ Dr W w'))
    (bn : (FloatKind.f64.format.order F F != some .eq) = false) (b1 : (FloatKind.f64.format.order F 0 == some .lt) = false) (b3 : (FloatKind.f64.format.order F 4895412794951729152 == some .gt || FloatKind.f64.format.order F 4895412794951729152 == some .eq) = false) (v : Int) (hv : floatToIntVal .f64 F .u64 = some v) :
    Calls Try.prog 34 #[.int .u64 bits, .int .i64 8, .int .i64 m, .bool sign] w fun e w' => e = .returned (.tuple #[.int .u64 (if most < v then most else v), .int .i64 0]) ∧ Dr w w' := by
  have hx30 := ext30 bits
  have hx31 := ext31 bits
  simp only [Int.toNat_natCast] at hx30 hx31
  have hcv := fun W => run_convert_float_int (P := Try.prog) W 49 22 .f64 .u64 F v (by rw [Try.underlying49]; rfl) Try.underlying22 hv
  clear hv
  have hc := fun W => run_convert_int_float (P := Try.prog) W 3 49 .i64 .f64 lst (by rw [Try.underlying3]; rfl) Try.underlying49
  generalize floatOfInt .f64 lst = L at *
  go_enter Try.func34, Try.ntmps34
  go_wp2_with (first
    | (go_at_call 38; refine (right_yes _ _ (by omega) (by omega)).mono ?_; rintro e w' ⟨rfl, ⟨nd, rfl⟩⟩)
    | (go_at_call 39; refine (HE.out _).mono ?_; rintro e w' ⟨rfl, ⟨nd, rfl⟩⟩)
    | (go_at_call 36; refine (HT.out _).mono ?_; rintro e w' ⟨rfl, ⟨nd, rfl⟩⟩)
    | (go_at_call 40; refine (cut_any _ _ _ h0 h1).mono ?_; rintro e w' ⟨rfl, ⟨nd, rfl⟩⟩))
  all_goals
    go_ret2
    exact ⟨by first | rfl | (simp [*]; done), by repeat (first | exact Dr.refl _ | apply Dr.step)⟩

set_option maxHeartbeats 1000000 in
set_option maxRecDepth 100000 in
theorem trunc8_nan (bits : Nat) (m : Nat) (sign : Bool) (lst most : Int) (w : World) (h0 : 1 ≤ m) (h1 : m ≤ 8) (hb : (bits : Int) ≤ 18446744073709551615) (hn : (Ieee.double.read bits).isNaN = true)
    (HE : Hid (∀ W : World, Calls Try.prog 39 #[.int .i64 m, .bool sign] W fun e w' => e = .returned (.tuple #[.int .i64 lst, .int .u64 most]) ∧ Dr W w')) :
    Calls Try.prog 34 #[.int .u64 bits, .int .i64 8, .int .i64 m, .bool sign] w fun e w' => e = .returned (.tuple #[.int .u64 0, .int .i64 0]) ∧ Dr w w' := by
  have hx30 := ext30 bits
  have hx31 := ext31 bits
  simp only [Int.toNat_natCast] at hx30 hx31
  have HNN := Lib.hid hn
  clear hn
  go_enter Try.func34, Try.ntmps34
  go_wp2_with (first
    | (go_at_call 38; refine (right_yes _ _ (by omega) (by omega)).mono ?_; rintro e w' ⟨rfl, ⟨nd, rfl⟩⟩)
    | (go_at_call 39; refine (HE.out _).mono ?_; rintro e w' ⟨rfl, ⟨nd, rfl⟩⟩)
    | (go_at_call 36; refine (mtrunc_nan _ _ HNN.out).mono ?_; rintro e w' ⟨n', rfl, hnn, ⟨nd, rfl⟩⟩))
  go_ret2
  exact ⟨rfl, by repeat (first | exact Dr.refl _ | apply Dr.step)⟩

set_option maxHeartbeats 1000000 in
set_option maxRecDepth 100000 in
theorem trunc4_a (bits x F : Nat) (m : Nat) (sign : Bool) (lst most : Int) (w : World) (h0 : 1 ≤ m) (h1 : m ≤ 8) (hb : (bits : Int) ≤ 4294967295) (HC : ∀ W : World, (convert 51 49 (.float .f32 bits)).run Try.prog W = .ok (.float .f64 x) W)
    (HE : Hid (∀ W : World, Calls Try.prog 39 #[.int .i64 m, .bool sign] W fun e w' => e = .returned (.tuple #[.int .i64 lst, .int .u64 most]) ∧ Dr W w'))
    (HT : Hid (∀ W : World, Calls Try.prog 36 #[.float .f64 x] W fun e w' => e = .returned (.float .f64 F) ∧ Dr W w'))
    (bn : (FloatKind.f64.format.order F F != some .eq) = false) (b1 : (FloatKind.f64.format.order F 0 == some .lt) = true) (b2 : (FloatKind.f64.format.order F (floatOfInt .f64 lst) == some .lt || FloatKind.f64.format.order F (floatOfInt .f64 lst) == some .eq) = true) :
    Calls Try.prog 34 #[.int .u64 bits, .int .i64 4, .int .i64 m, .bool sign] w fun e w' => e = .returned (.tuple #[.int .u64 (lst % pw (8 * m)), .int .i64 0]) ∧ Dr w w' := by
  have hs : ((bits : Int) / 4294967296 != 0) = false := by rw [bne_eq_false_iff_eq]; omega
  have hy : IntKind.u32.wrap (bits : Int) = (bits : Int) := by simp only [IntKind.wrap_u32]; omega
  have hx30 := ext30 bits
  have hx31 := ext31 bits
  simp only [Int.toNat_natCast] at hx30 hx31
  have hc := fun W => run_convert_int_float (P := Try.prog) W 3 49 .i64 .f64 lst (by rw [Try.underlying3]; rfl) Try.underlying49
  generalize floatOfInt .f64 lst = L at *
  go_enter Try.func34, Try.ntmps34
  go_wp2_with (first
    | (go_at_call 38; refine (right_yes _ _ (by omega) (by omega)).mono ?_; rintro e w' ⟨rfl, ⟨nd, rfl⟩⟩)
    | (go_at_call 39; refine (HE.out _).mono ?_; rintro e w' ⟨rfl, ⟨nd, rfl⟩⟩)
    | (go_at_call 36; refine (HT.out _).mono ?_; rintro e w' ⟨rfl, ⟨nd, rfl⟩⟩)
    | (go_at_call 40; refine (cut_any _ _ _ h0 h1).mono ?_; rintro e w' ⟨rfl, ⟨nd, rfl⟩⟩))
  all_goals
    go_ret2
    exact ⟨by first | rfl | (simp [*]; done), by repeat (first | exact Dr.refl _ | apply Dr.step)⟩

set_option maxHeartbeats 1000000 in
set_option maxRecDepth 100000 in
theorem trunc4_b (bits x F : Nat) (m : Nat) (sign : Bool) (lst most : Int) (w : World) (h0 : 1 ≤ m) (h1 : m ≤ 8) (hb : (bits : Int) ≤ 4294967295) (HC : ∀ W : World, (convert 51 49 (.float .f32 bits)).run Try.prog W = .ok (.float .f64 x) W)
    (HE : Hid (∀ W : World, Calls Try.prog 39 #[.int .i64 m, .bool sign] W fun e w' => e = .returned (.tuple #[.int .i64 lst, .int .u64 most]) ∧ Dr W w'))
    (HT : Hid (∀ W : World, Calls Try.prog 36 #[.float .f64 x] W fun e w' => e = .returned (.float .f64 F) ∧ Dr W w'))
    (bn : (FloatKind.f64.format.order F F != some .eq) = false) (b1 : (FloatKind.f64.format.order F 0 == some .lt) = true) (b2 : (FloatKind.f64.format.order F (floatOfInt .f64 lst) == some .lt || FloatKind.f64.format.order F (floatOfInt .f64 lst) == some .eq) = false) (v : Int) (hv : floatToIntVal .f64 F .i64 = some v) :
    Calls Try.prog 34 #[.int .u64 bits, .int .i64 4, .int .i64 m, .bool sign] w fun e w' => e = .returned (.tuple #[.int .u64 (v % pw (8 * m)), .int .i64 0]) ∧ Dr w w' := by
  have hs : ((bits : Int) / 4294967296 != 0) = false := by rw [bne_eq_false_iff_eq]; omega
  have hy : IntKind.u32.wrap (bits : Int) = (bits : Int) := by simp only [IntKind.wrap_u32]; omega
  have hx30 := ext30 bits
  have hx31 := ext31 bits
  simp only [Int.toNat_natCast] at hx30 hx31
  have hcv := fun W => run_convert_float_int (P := Try.prog) W 49 3 .f64 .i64 F v (by rw [Try.underlying49]; rfl) Try.underlying3 hv
  clear hv
  have hc := fun W => run_convert_int_float (P := Try.prog) W 3 49 .i64 .f64 lst (by rw [Try.underlying3]; rfl) Try.underlying49
  generalize floatOfInt .f64 lst = L at *
  go_enter Try.func34, Try.ntmps34
  go_wp2_with (first
    | (go_at_call 38; refine (right_yes _ _ (by omega) (by omega)).mono ?_; rintro e w' ⟨rfl, ⟨nd, rfl⟩⟩)
    | (go_at_call 39; refine (HE.out _).mono ?_; rintro e w' ⟨rfl, ⟨nd, rfl⟩⟩)
    | (go_at_call 36; refine (HT.out _).mono ?_; rintro e w' ⟨rfl, ⟨nd, rfl⟩⟩)
    | (go_at_call 40; refine (cut_any _ _ _ h0 h1).mono ?_; rintro e w' ⟨rfl, ⟨nd, rfl⟩⟩))
  all_goals
    go_ret2
    exact ⟨by first | rfl | (simp [*]; done), by repeat (first | exact Dr.refl _ | apply Dr.step)⟩

set_option maxHeartbeats 1000000 in
set_option maxRecDepth 100000 in
theorem trunc4_c (bits x F : Nat) (m : Nat) (sign : Bool) (lst most : Int) (w : World) (h0 : 1 ≤ m) (h1 : m ≤ 8) (hb : (bits : Int) ≤ 4294967295) (HC : ∀ W : World, (convert 51 49 (.float .f32 bits)).run Try.prog W = .ok (.float .f64 x) W)
    (HE : Hid (∀ W : World, Calls Try.prog 39 #[.int .i64 m, .bool sign] W fun e w' => e = .returned (.tuple #[.int .i64 lst, .int .u64 most]) ∧ Dr W w'))
    (HT : Hid (∀ W : World, Calls Try.prog 36 #[.float .f64 x] W fun e w' => e = .returned (.float .f64 F) ∧ Dr W w'))
    (bn : (FloatKind.f64.format.order F F != some .eq) = false) (b1 : (FloatKind.f64.format.order F 0 == some .lt) = false) (b3 : (FloatKind.f64.format.order F 4895412794951729152 == some .gt || FloatKind.f64.format.order F 4895412794951729152 == some .eq) = true) :
    Calls Try.prog 34 #[.int .u64 bits, .int .i64 4, .int .i64 m, .bool sign] w fun e w' => e = .returned (.tuple #[.int .u64 (most), .int .i64 0]) ∧ Dr w w' := by
  have hs : ((bits : Int) / 4294967296 != 0) = false := by rw [bne_eq_false_iff_eq]; omega
  have hy : IntKind.u32.wrap (bits : Int) = (bits : Int) := by simp only [IntKind.wrap_u32]; omega
  have hx30 := ext30 bits
  have hx31 := ext31 bits
  simp only [Int.toNat_natCast] at hx30 hx31
  have hc := fun W => run_convert_int_float (P := Try.prog) W 3 49 .i64 .f64 lst (by rw [Try.underlying3]; rfl) Try.underlying49
  generalize floatOfInt .f64 lst = L at *
  go_enter Try.func34, Try.ntmps34
  go_wp2_with (first
    | (go_at_call 38; refine (right_yes _ _ (by omega) (by omega)).mono ?_; rintro e w' ⟨rfl, ⟨nd, rfl⟩⟩)
    | (go_at_call 39; refine (HE.out _).mono ?_; rintro e w' ⟨rfl, ⟨nd, rfl⟩⟩)
    | (go_at_call 36; refine (HT.out _).mono ?_; rintro e w' ⟨rfl, ⟨nd, rfl⟩⟩)
    | (go_at_call 40; refine (cut_any _ _ _ h0 h1).mono ?_; rintro e w' ⟨rfl, ⟨nd, rfl⟩⟩))
  all_goals
    go_ret2
    exact ⟨by first | rfl | (simp [*]; done), by repeat (first | exact Dr.refl _ | apply Dr.step)⟩

set_option maxHeartbeats 1000000 in
set_option maxRecDepth 100000 in
theorem trunc4_d (bits x F : Nat) (m : Nat) (sign : Bool) (lst most : Int) (w : World) (h0 : 1 ≤ m) (h1 : m ≤ 8) (hb : (bits : Int) ≤ 4294967295) (HC : ∀ W : World, (convert 51 49 (.float .f32 bits)).run Try.prog W = .ok (.float .f64 x) W)
    (HE : Hid (∀ W : World, Calls Try.prog 39 #[.int .i64 m, .bool sign] W fun e w' => e = .returned (.tuple #[.int .i64 lst, .int .u64 most]) ∧ Dr W w'))
    (HT : Hid (∀ W : World, Calls Try.prog 36 #[.float .f64 x] W fun e w' => e = .returned (.float .f64 F) ∧ Dr W w'))
    (bn : (FloatKind.f64.format.order F F != some .eq) = false) (b1 : (FloatKind.f64.format.order F 0 == some .lt) = false) (b3 : (FloatKind.f64.format.order F 4895412794951729152 == some .gt || FloatKind.f64.format.order F 4895412794951729152 == some .eq) = false) (v : Int) (hv : floatToIntVal .f64 F .u64 = some v) :
    Calls Try.prog 34 #[.int .u64 bits, .int .i64 4, .int .i64 m, .bool sign] w fun e w' => e = .returned (.tuple #[.int .u64 (if most < v then most else v), .int .i64 0]) ∧ Dr w w' := by
  have hs : ((bits : Int) / 4294967296 != 0) = false := by rw [bne_eq_false_iff_eq]; omega
  have hy : IntKind.u32.wrap (bits : Int) = (bits : Int) := by simp only [IntKind.wrap_u32]; omega
  have hx30 := ext30 bits
  have hx31 := ext31 bits
  simp only [Int.toNat_natCast] at hx30 hx31
  have hcv := fun W => run_convert_float_int (P := Try.prog) W 49 22 .f64 .u64 F v (by rw [Try.underlying49]; rfl) Try.underlying22 hv
  clear hv
  have hc := fun W => run_convert_int_float (P := Try.prog) W 3 49 .i64 .f64 lst (by rw [Try.underlying3]; rfl) Try.underlying49
  generalize floatOfInt .f64 lst = L at *
  go_enter Try.func34, Try.ntmps34
  go_wp2_with (first
    | (go_at_call 38; refine (right_yes _ _ (by omega) (by omega)).mono ?_; rintro e w' ⟨rfl, ⟨nd, rfl⟩⟩)
    | (go_at_call 39; refine (HE.out _).mono ?_; rintro e w' ⟨rfl, ⟨nd, rfl⟩⟩)
    | (go_at_call 36; refine (HT.out _).mono ?_; rintro e w' ⟨rfl, ⟨nd, rfl⟩⟩)
    | (go_at_call 40; refine (cut_any _ _ _ h0 h1).mono ?_; rintro e w' ⟨rfl, ⟨nd, rfl⟩⟩))
  all_goals
    go_ret2
    exact ⟨by first | rfl | (simp [*]; done), by repeat (first | exact Dr.refl _ | apply Dr.step)⟩

set_option maxHeartbeats 1000000 in
set_option maxRecDepth 100000 in
theorem trunc4_nan (bits : Nat) (m : Nat) (sign : Bool) (lst most : Int) (w : World) (h0 : 1 ≤ m) (h1 : m ≤ 8) (hb : (bits : Int) ≤ 4294967295) (s : Bool) (t : Nat) (hr : Ieee.single.read bits = .nan s t)
    (HE : Hid (∀ W : World, Calls Try.prog 39 #[.int .i64 m, .bool sign] W fun e w' => e = .returned (.tuple #[.int .i64 lst, .int .u64 most]) ∧ Dr W w')) :
    Calls Try.prog 34 #[.int .u64 bits, .int .i64 4, .int .i64 m, .bool sign] w fun e w' => e = .returned (.tuple #[.int .u64 0, .int .i64 0]) ∧ Dr w w' := by
  have hs : ((bits : Int) / 4294967296 != 0) = false := by rw [bne_eq_false_iff_eq]; omega
  have hy : IntKind.u32.wrap (bits : Int) = (bits : Int) := by simp only [IntKind.wrap_u32]; omega
  have hx30 := ext30 bits
  have hx31 := ext31 bits
  simp only [Int.toNat_natCast] at hx30 hx31
  have hcn := conv_nan bits s t hr
  clear hr
  go_enter Try.func34, Try.ntmps34
  go_wp2_with (first
    | (go_at_call 38; refine (right_yes _ _ (by omega) (by omega)).mono ?_; rintro e w' ⟨rfl, ⟨nd, rfl⟩⟩)
    | (go_at_call 39; refine (HE.out _).mono ?_; rintro e w' ⟨rfl, ⟨nd, rfl⟩⟩)
    | (go_at_call 36; refine (mtrunc_nan _ _ (drawnNaN_nan _ _)).mono ?_; rintro e w' ⟨n', rfl, hnn, ⟨nd, rfl⟩⟩))
  go_ret2
  exact ⟨rfl, by repeat (first | exact Dr.refl _ | apply Dr.step)⟩

end Go.Proofs.Ytmhgbpgilhboeaa.Pa
