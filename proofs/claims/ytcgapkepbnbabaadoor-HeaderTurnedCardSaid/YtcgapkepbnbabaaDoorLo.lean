/- The laws HeaderSizes and HeaderRoom, whole. -/
import Derived.Test.YtcgapkepbnbabaaDoorLm
import Derived.Test.YtcgapkepbnbabaaDoorLi
namespace Go.Proofs.YtcgapkepbnbabaaDoor.X5
set_option linter.unusedVariables false
set_option linter.unusedSimpArgs false
open Go.RowKit Wd Ty9
theorem lives8_any : LivesSays := fun w hG => lives8_of (fun A n C l Ar nr Cr lo hi room w h1 h2 h3 h4 h5 h6 => lay_any A n C l Ar nr Cr lo hi room w h1 h2 h3 h4 h5 h6) w hG
theorem sizes_walk (w : World) (hG : Gs w) (A : Option Addr) (n C : Nat) (l : List Mg) (hn : (n + 1) * 32 ≤ 140737488355328) (hA : A = none → C = 0) (h : Ms w w.heap.size A n l) :
    Calls Tryd.prog 3 #[.slice A n C] w fun e w' => e = .returned (.bool true) ∧ Below w.heap.size w w' :=
  sizes_of lives8_any w hG A n C l hn hA h
theorem room_walk (w : World) (hG : Gs w) (A : Option Addr) (n C : Nat) (l : List Mg) (hn : (n + 1) * 32 ≤ 140737488355328) (hA : A = none → C = 0) (h : Ms w w.heap.size A n l)
    (Ar : Option Addr) (nr Cr : Nat) (room : List Xt) (hnr : (nr + 1) * 16 ≤ 140737488355328) (hAr : Ar = none → Cr = 0) (hr : Ex w 0 w.heap.size Ar nr room) :
    Calls Tryd.prog 5 #[.slice A n C, .slice Ar nr Cr] w fun e w' => e = .returned (.bool true) ∧ Below w.heap.size w w' :=
  room_of lives8_any (fun A n C l Ar nr Cr lo hi room w h1 h2 h3 h4 h5 h6 => lay_any A n C l Ar nr Cr lo hi room w h1 h2 h3 h4 h5 h6) w hG A n C l hn hA h Ar nr Cr room hnr hAr hr
end Go.Proofs.YtcgapkepbnbabaaDoor.X5
