/- The float functions of the package number: what each returns. -/
import Derived.Test.YtmhgbpgilhboeaaProg
import Derived.Test.YtmhgbpgilhboeaaWd
import Derived.WalkLawsBesides
import Derived.Laws.FloatArith
import Derived.Laws.Externs
namespace Go.Proofs.Ytmhgbpgilhboeaa.Fl
set_option linter.unusedVariables false
set_option linter.unusedSimpArgs false
open Go.RowKit Wd

theorem ext31 (n : Int) (w : World) : (callFunc 31 #[.int .u32 n]).run Try.prog w = .ok (.value (.float .f32 n.toNat)) w := by
  rw [run_callFunc_extern Try.func31 (by kernel_rfl) (by kernel_rfl) (by kernel_rfl) (e := Extern.MathFloatBits.float32frombits) (by kernel_rfl)]; rfl
theorem ext30 (n : Int) (w : World) : (callFunc 30 #[.int .u64 n]).run Try.prog w = .ok (.value (.float .f64 n.toNat)) w := by
  rw [run_callFunc_extern Try.func30 (by kernel_rfl) (by kernel_rfl) (by kernel_rfl) (e := Extern.MathFloatBits.float64frombits) (by kernel_rfl)]; rfl
theorem ext32 (n : Nat) (w : World) : (callFunc 32 #[.float .f32 n]).run Try.prog w = .ok (.value (.int .u32 n)) w := by
  rw [run_callFunc_extern Try.func32 (by kernel_rfl) (by kernel_rfl) (by kernel_rfl) (e := Extern.MathFloatBits.float32bits) (by kernel_rfl)]; rfl
theorem ext33 (n : Nat) (w : World) : (callFunc 33 #[.float .f64 n]).run Try.prog w = .ok (.value (.int .u64 n)) w := by
  rw [run_callFunc_extern Try.func33 (by kernel_rfl) (by kernel_rfl) (by kernel_rfl) (e := Extern.MathFloatBits.float64bits) (by kernel_rfl)]; rfl

theorem order_nan {f : Ieee.Format} {n : Nat} {s : Bool} {t : Nat} (h : f.read n = .nan s t) : f.order n n = none := by
  unfold Ieee.Format.order; rw [h]; rfl
theorem order_inf {f : Ieee.Format} {n : Nat} {s : Bool} (h : f.read n = .infinity s) : f.order n n = some .eq := by
  unfold Ieee.Format.order; rw [h]; cases s <;> rfl
theorem order_num {f : Ieee.Format} {n : Nat} {s : Bool} {m : Nat} {e : Int} (h : f.read n = .number s m e) : f.order n n = some .eq := by
  unfold Ieee.Format.order; rw [h]; simp [Ieee.Datum.order]

theorem widen_nan (n : Nat) (s : Bool) (t : Nat) (w : World) (h : Ieee.single.read n = .nan s t) :
    Calls Try.prog 19 #[.int .u32 n] w fun e w' => e = .returned (.int .u64 9221120237041090560) ∧ Dr w w' := by
  have ho : (FloatKind.f32.format.order n n != some .eq) = true := by
    rw [show FloatKind.f32.format = Ieee.single from rfl, order_nan h]; rfl
  have h31 := ext31 n
  simp only [Int.toNat_natCast] at h31
  clear h
  go_enter Try.func19, Try.ntmps19
  go_wp2
  go_ret
  exact ⟨rfl, Dr.refl _⟩
theorem widen_num (n : Nat) (r : Nat) (w : World) (ho : (FloatKind.f32.format.order n n != some .eq) = false) (h : floatToFloatBits .f32 n .f64 = some r) :
    Calls Try.prog 19 #[.int .u32 n] w fun e w' => e = .returned (.int .u64 r) ∧ Dr w w' := by
  have h31 := ext31 n
  simp only [Int.toNat_natCast] at h31
  have h33 := ext33 r
  have hc := fun W => run_convert_float_float (P := Try.prog) W 51 49 .f32 .f64 n r (by rw [Try.underlying51]; rfl) Try.underlying49 h
  clear h
  go_enter Try.func19, Try.ntmps19
  go_wp2
  go_ret
  exact ⟨rfl, Dr.refl _⟩
end Go.Proofs.Ytmhgbpgilhboeaa.Fl
