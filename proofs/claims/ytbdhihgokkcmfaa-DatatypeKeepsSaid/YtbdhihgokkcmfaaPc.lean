/- The closures of the program's compound and enum. -/
import Derived.Test.YtbdhihgokkcmfaaPz
import Derived.Lib.SlicesS
import Derived.Test.YtbdhihgokkcmfaaSh
namespace Go.Proofs.Ytbdhihgokkcmfaa.Ty9
set_option linter.unusedVariables false
set_option linter.unusedSimpArgs false
open Go.RowKit Wd

/-- A field's nine cells, plainly. -/
structure FCl where
  name : ByteArray
  pos : Int
  c : Int
  wd : Int
  big : Bool
  fA : Option Addr
  fn : Nat
  fC : Nat
  dA : Option Addr
  dn : Nat
  dC : Nat
  bA : Option Addr
  bn : Nat
  bC : Nat
  nA : Option Addr
  nn : Nat
  nC : Nat
deriving Inhabited
def FCl.enc (x : FCl) : List Value := [.string x.name, .int .i64 x.pos, .int .i64 x.c, .int .i64 x.wd, .bool x.big, .slice x.fA x.fn x.fC, .slice x.dA x.dn x.dC, .slice x.bA x.bn x.bC, .slice x.nA x.nn x.nC]

set_option maxHeartbeats 1000000 in
theorem predF (nm : ByteArray) (B : Nat) (w : World) (hB : B < w.heap.size) (hcell : w.cell? ⟨B, 0, none⟩ = some (.string nm)) :
    PredBelow Try.prog 69 #[.pointer (some ⟨B, 0, none⟩)] (fun x : FCl => .agg x.enc.toArray) (fun x => x.name.toList == nm.toList) w := fun W x hb => by
  have hc : W.cell? ⟨B, 0, none⟩ = some (.string nm) := (hb.cell (p := ⟨B, 0, none⟩) hB).trans hcell
  have hBW : B < W.heap.size := Nat.lt_of_lt_of_le hB hb.size
  have hne : B ≠ W.heap.size := by omega
  obtain ⟨name, pos, c, wd, big, fA, fn, fC, dA, dn, dC, bA, bn, bC, nA, nn, nC⟩ := x
  show Calls Try.prog 69 #[.agg #[.string name, .int .i64 pos, .int .i64 c, .int .i64 wd, .bool big, .slice fA fn fC, .slice dA dn dC, .slice bA bn bC, .slice nA nn nC], .pointer (some ⟨B, 0, none⟩)] W _
  go_enter Try.func69, Try.ntmps69
  go_wp2
  go_ret
  exact ⟨rfl, hb.alloc hb.size _⟩

theorem containsF (b off n c : Nat) (zs : List FCl) (nm : ByteArray) (B : Nat) (w : World) (hB : B < w.heap.size) (hcell : w.cell? ⟨B, 0, none⟩ = some (.string nm))
    (hz : n ≤ zs.length) (hbig : n ≤ 9223372036854775807) (hb : b < w.heap.size)
    (hc : ∀ j, j < zs.length → ∀ i v, zs[j]!.enc[i]? = some v → w.cell? ⟨b, off + j * 9 + i, none⟩ = some v) :
    Calls Try.prog 68 #[.slice (some ⟨b, off, none⟩) n c, .func (.func 69) #[] #[.pointer (some ⟨B, 0, none⟩)]] w
      fun e w' => e = .returned (.bool ((zs.take n).any fun x => x.name.toList == nm.toList)) ∧ Below w.heap.size w w' :=
  AnyQ.slices_ContainsFunc Sh.layCF 9 Try.isAgg66 Try.sizeOf66 FCl.enc (fun _ => rfl) (fun x => x.name.toList == nm.toList) 69 #[.pointer (some ⟨B, 0, none⟩)]
    (enters_of Try.func69 (by kernel_rfl) rfl) b off n c zs w (predF nm B w hB hcell) hz hbig hb hc

/-- A member's two cells. -/
def encM (x : ByteArray × Int) : List Value := [.string x.1, .int .i64 x.2]

set_option maxHeartbeats 1000000 in
theorem predM (m : ByteArray × Int) (B : Nat) (w : World) (hB : B < w.heap.size) (hcell : w.cell? ⟨B, 0, none⟩ = some (.string m.1)) (hcell1 : w.cell? ⟨B, 1, none⟩ = some (.int .i64 m.2)) :
    PredBelow Try.prog 72 #[.pointer (some ⟨B, 0, none⟩)] (fun x : ByteArray × Int => .agg (encM x).toArray) (fun x => x.1.toList == m.1.toList || x.2 == m.2) w := fun W x hb => by
  have hc : W.cell? ⟨B, 0, none⟩ = some (.string m.1) := (hb.cell (p := ⟨B, 0, none⟩) hB).trans hcell
  have hc1 : W.cell? ⟨B, 1, none⟩ = some (.int .i64 m.2) := (hb.cell (p := ⟨B, 1, none⟩) hB).trans hcell1
  have hBW : B < W.heap.size := Nat.lt_of_lt_of_le hB hb.size
  have hne : B ≠ W.heap.size := by omega
  obtain ⟨name, val⟩ := x
  obtain ⟨mn, mv⟩ := m
  show Calls Try.prog 72 #[.agg #[.string name, .int .i64 val], .pointer (some ⟨B, 0, none⟩)] W _
  have HBA := Lib.hid (hb.alloc hb.size (.cells #[.string name, .int .i64 val] 68))
  go_enter Try.func72, Try.ntmps72
  go_wp2
  all_goals
    go_ret
    exact ⟨by first | rfl | simp_all, HBA.out⟩

theorem containsM (b off n c : Nat) (zs : List (ByteArray × Int)) (m : ByteArray × Int) (B : Nat) (w : World) (hB : B < w.heap.size) (hcell : w.cell? ⟨B, 0, none⟩ = some (.string m.1)) (hcell1 : w.cell? ⟨B, 1, none⟩ = some (.int .i64 m.2))
    (hz : n ≤ zs.length) (hbig : n ≤ 9223372036854775807) (hb : b < w.heap.size)
    (hc : ∀ j, j < zs.length → ∀ i v, (encM zs[j]!)[i]? = some v → w.cell? ⟨b, off + j * 2 + i, none⟩ = some v) :
    Calls Try.prog 71 #[.slice (some ⟨b, off, none⟩) n c, .func (.func 72) #[] #[.pointer (some ⟨B, 0, none⟩)]] w
      fun e w' => e = .returned (.bool ((zs.take n).any fun x => x.1.toList == m.1.toList || x.2 == m.2)) ∧ Below w.heap.size w w' :=
  AnyQ.slices_ContainsFunc Sh.layCM 2 Try.isAgg68 Try.sizeOf68 encM (fun _ => rfl) (fun x => x.1.toList == m.1.toList || x.2 == m.2) 72 #[.pointer (some ⟨B, 0, none⟩)]
    (enters_of Try.func72 (by kernel_rfl) rfl) b off n c zs w (predM m B w hB hcell hcell1) hz hbig hb hc
end Go.Proofs.Ytbdhihgokkcmfaa.Ty9
