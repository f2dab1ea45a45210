/-
  No cell of these rows narrows 'for every input' (looked for: loops, veiled, ifaces, maps, wideKeys, modest, calm, conditions, laid).
  DERIVED. THE GIVEN ROWS OF THIS SEAT. 7 by the template 'for every input the law returns true; each argument reads behind the call as it read before'; 0 by the template 'total and deterministic' (their statements: YtkdfafaiabidgaaTotals.lean).
  GIVEN WITH THE SEED: the statements are not yours to turn. If you find one false, say at which input.
  Laid BY PROGRAM, IN A SANDBOX (cutbox-rows.mjs): the forced cells as the released guide's own fill.sh prints them over the translation 496c2a1f63b78685… (all of the seat's roots in one cut). By AI agents, Wed Nov 11 2026. No macro, syntax, notation, axiom, sorry.
-/
import Derived.Test.YtkdfafaiabidgaaChecked
import GoSem.Claim
import GoSem.ClaimJoined
import GoSem.ClaimMapViews
import Derived.JoinedTies
import Derived.KernelRfl
namespace Go.Proofs.Ytkdfafaiabidgaa
/- THE CELL 'sum', in the pinned program and in every row, IS THE sha256 OF THE DUMP (.gsa) THAT YtkdfafaiabidgaaProg.lean LOADS. Nothing in Lean hashes anything: it is a label: what it is worth is what the hold of that sum in a sandbox is worth. -/
noncomputable def Try.pinned : Pinned := { name := "ytkdfafaiabidgaa", sum := "496c2a1f63b78685c6d3fad6e9f0e85618aa662499c01d4e3516d81972c393c6", checked := Try.checked }
namespace Rows
def none {H : Type} : Left H := { results := [], args := [] }

/-- 'slabvaultlaw05.ExtentNormals': WHATEVER THE INPUT: true; the input reads as it did. -/
def extentNormalsSpec : ChangeSpec := { name := "extentNormals", fn := fun _ => fun
  | [d] => { results := [.lit (.bool true)], args := [d] }
  | _ => none }
def extentNormalsRow : OpenClaim := { program := "ytkdfafaiabidgaa", sum := "496c2a1f63b78685c6d3fad6e9f0e85618aa662499c01d4e3516d81972c393c6", func := "slabvault/slabvaultlaw05.ExtentNormals", spec := "extentNormals", unfollowed := true, recurses := true, apart := false }
def ExtentNormalsSaid : Prop := extentNormalsRow.holds Try.pinned (OpenSpec.ofChange extentNormalsSpec)

/-- ITS FALSE NEIGHBOUR: 'it returns false'. Refute it at one input. -/
def extentNormalsWrong : ChangeSpec := { name := "extentNormals", fn := fun _ => fun
  | [d] => { results := [.lit (.bool false)], args := [d] }
  | _ => none }
def ExtentNormalsWrongFalsely : Prop := extentNormalsRow.holds Try.pinned (OpenSpec.ofChange extentNormalsWrong)

/-- 'slabvaultlaw05.ExtentTakes': WHATEVER THE INPUT: true; the input reads as it did. -/
def extentTakesSpec : ChangeSpec := { name := "extentTakes", fn := fun _ => fun
  | [d1, d2] => { results := [.lit (.bool true)], args := [d1, d2] }
  | _ => none }
def extentTakesRow : OpenClaim := { program := "ytkdfafaiabidgaa", sum := "496c2a1f63b78685c6d3fad6e9f0e85618aa662499c01d4e3516d81972c393c6", func := "slabvault/slabvaultlaw05.ExtentTakes", spec := "extentTakes", unfollowed := true, recurses := true, apart := false }
def ExtentTakesSaid : Prop := extentTakesRow.holds Try.pinned (OpenSpec.ofChange extentTakesSpec)

/-- ITS FALSE NEIGHBOUR: 'it returns false'. Refute it at one input. -/
def extentTakesWrong : ChangeSpec := { name := "extentTakes", fn := fun _ => fun
  | [d1, d2] => { results := [.lit (.bool false)], args := [d1, d2] }
  | _ => none }
def ExtentTakesWrongFalsely : Prop := extentTakesRow.holds Try.pinned (OpenSpec.ofChange extentTakesWrong)

/-- 'slabvaultlaw05.ExtentGoods': WHATEVER THE INPUT: true; the input reads as it did. -/
def extentGoodsSpec : ChangeSpec := { name := "extentGoods", fn := fun _ => fun
  | [d1, d2] => { results := [.lit (.bool true)], args := [d1, d2] }
  | _ => none }
def extentGoodsRow : OpenClaim := { program := "ytkdfafaiabidgaa", sum := "496c2a1f63b78685c6d3fad6e9f0e85618aa662499c01d4e3516d81972c393c6", func := "slabvault/slabvaultlaw05.ExtentGoods", spec := "extentGoods", unfollowed := true, recurses := true, apart := false }
def ExtentGoodsSaid : Prop := extentGoodsRow.holds Try.pinned (OpenSpec.ofChange extentGoodsSpec)

/-- ITS FALSE NEIGHBOUR: 'it returns false'. Refute it at one input. -/
def extentGoodsWrong : ChangeSpec := { name := "extentGoods", fn := fun _ => fun
  | [d1, d2] => { results := [.lit (.bool false)], args := [d1, d2] }
  | _ => none }
def ExtentGoodsWrongFalsely : Prop := extentGoodsRow.holds Try.pinned (OpenSpec.ofChange extentGoodsWrong)

/-- 'slabvaultlaw05.ExtentRests': WHATEVER THE INPUT: true; the input reads as it did. -/
def extentRestsSpec : ChangeSpec := { name := "extentRests", fn := fun _ => fun
  | [d1, d2] => { results := [.lit (.bool true)], args := [d1, d2] }
  | _ => none }
def extentRestsRow : OpenClaim := { program := "ytkdfafaiabidgaa", sum := "496c2a1f63b78685c6d3fad6e9f0e85618aa662499c01d4e3516d81972c393c6", func := "slabvault/slabvaultlaw05.ExtentRests", spec := "extentRests", unfollowed := true, recurses := true, apart := false }
def ExtentRestsSaid : Prop := extentRestsRow.holds Try.pinned (OpenSpec.ofChange extentRestsSpec)

/-- ITS FALSE NEIGHBOUR: 'it returns false'. Refute it at one input. -/
def extentRestsWrong : ChangeSpec := { name := "extentRests", fn := fun _ => fun
  | [d1, d2] => { results := [.lit (.bool false)], args := [d1, d2] }
  | _ => none }
def ExtentRestsWrongFalsely : Prop := extentRestsRow.holds Try.pinned (OpenSpec.ofChange extentRestsWrong)

/-- 'slabvaultlaw05.ExtentGives': WHATEVER THE INPUT: true; the input reads as it did. -/
def extentGivesSpec : ChangeSpec := { name := "extentGives", fn := fun _ => fun
  | [d1, d2] => { results := [.lit (.bool true)], args := [d1, d2] }
  | _ => none }
def extentGivesRow : OpenClaim := { program := "ytkdfafaiabidgaa", sum := "496c2a1f63b78685c6d3fad6e9f0e85618aa662499c01d4e3516d81972c393c6", func := "slabvault/slabvaultlaw05.ExtentGives", spec := "extentGives", unfollowed := true, recurses := true, apart := false }
def ExtentGivesSaid : Prop := extentGivesRow.holds Try.pinned (OpenSpec.ofChange extentGivesSpec)

/-- ITS FALSE NEIGHBOUR: 'it returns false'. Refute it at one input. -/
def extentGivesWrong : ChangeSpec := { name := "extentGives", fn := fun _ => fun
  | [d1, d2] => { results := [.lit (.bool false)], args := [d1, d2] }
  | _ => none }
def ExtentGivesWrongFalsely : Prop := extentGivesRow.holds Try.pinned (OpenSpec.ofChange extentGivesWrong)

/-- 'slabvaultlaw05.ExtentBack': WHATEVER THE INPUT: true; the input reads as it did. -/
def extentBackSpec : ChangeSpec := { name := "extentBack", fn := fun _ => fun
  | [d1, d2] => { results := [.lit (.bool true)], args := [d1, d2] }
  | _ => none }
def extentBackRow : OpenClaim := { program := "ytkdfafaiabidgaa", sum := "496c2a1f63b78685c6d3fad6e9f0e85618aa662499c01d4e3516d81972c393c6", func := "slabvault/slabvaultlaw05.ExtentBack", spec := "extentBack", unfollowed := true, recurses := true, apart := false }
def ExtentBackSaid : Prop := extentBackRow.holds Try.pinned (OpenSpec.ofChange extentBackSpec)

/-- ITS FALSE NEIGHBOUR: 'it returns false'. Refute it at one input. -/
def extentBackWrong : ChangeSpec := { name := "extentBack", fn := fun _ => fun
  | [d1, d2] => { results := [.lit (.bool false)], args := [d1, d2] }
  | _ => none }
def ExtentBackWrongFalsely : Prop := extentBackRow.holds Try.pinned (OpenSpec.ofChange extentBackWrong)

/-- 'slabvaultlaw05.ExtentCovers': WHATEVER THE INPUT: true; the input reads as it did. -/
def extentCoversSpec : ChangeSpec := { name := "extentCovers", fn := fun _ => fun
  | [d1, d2] => { results := [.lit (.bool true)], args := [d1, d2] }
  | _ => none }
def extentCoversRow : OpenClaim := { program := "ytkdfafaiabidgaa", sum := "496c2a1f63b78685c6d3fad6e9f0e85618aa662499c01d4e3516d81972c393c6", func := "slabvault/slabvaultlaw05.ExtentCovers", spec := "extentCovers", unfollowed := true, recurses := true, apart := false }
def ExtentCoversSaid : Prop := extentCoversRow.holds Try.pinned (OpenSpec.ofChange extentCoversSpec)

/-- ITS FALSE NEIGHBOUR: 'it returns false'. Refute it at one input. -/
def extentCoversWrong : ChangeSpec := { name := "extentCovers", fn := fun _ => fun
  | [d1, d2] => { results := [.lit (.bool false)], args := [d1, d2] }
  | _ => none }
def ExtentCoversWrongFalsely : Prop := extentCoversRow.holds Try.pinned (OpenSpec.ofChange extentCoversWrong)

/- THE SECOND FORM. 'bulk': how many values and letters a reading holds, each counted each time it is reached (what is shared counts as often as it is met; a slice's spare places count too). A statement '..UptoSaid' is the law's where the arguments, and the package variables that the reading takes, are together of bulk at most 1048576: NARROWER than '..Said'. Prove '..Said' where nothing that the law and all that it calls make is longer than what came in: it says more and counts as full. Else prove '..UptoSaid'. A law counts once. -/
mutual
def uptoBulk {H : Type} : DataW H → Nat
  | .lit (.string bytes) => bytes.length + 1
  | .lit _ => 1
  | .nil => 1
  | .ptr d => uptoBulk d + 1
  | .slice elems spare => uptoBulkAll elems + uptoBulkAll spare + 1
  | .agg parts => uptoBulkAll parts + 1
  | .iface _ d => uptoBulk d + 1
  | .map entries => uptoBulkEntries entries + 1
  | .held _ => 1
def uptoBulkAll {H : Type} : List (DataW H) → Nat
  | [] => 0
  | d :: r => uptoBulk d + uptoBulkAll r
def uptoBulkEntries {H : Type} : List (Lit × DataW H) → Nat
  | [] => 0
  | x :: r => uptoBulkEntry x + uptoBulkEntries r
def uptoBulkEntry {H : Type} : Lit × DataW H → Nat
  | (.string bytes, d) => bytes.length + uptoBulk d + 1
  | (_, d) => uptoBulk d + 1
 end
def uptoSmall : (H : Type) → List (DataW H) → Bool := fun _ ds => decide (uptoBulkAll ds ≤ 1048576)
def OpenSpec.upto (s : _root_.Go.ChangeSpec) : _root_.Go.OpenSpec := { _root_.Go.OpenSpec.ofChange s with cond := some uptoSmall }

/-- 'slabvaultlaw05.ExtentNormals', WHERE WHAT IT READS IS OF BULK AT MOST 1048576: true; the input reads as it did. -/
def extentNormalsUptoRow : OpenClaim := { program := "ytkdfafaiabidgaa", sum := "496c2a1f63b78685c6d3fad6e9f0e85618aa662499c01d4e3516d81972c393c6", func := "slabvault/slabvaultlaw05.ExtentNormals", spec := "extentNormals", unfollowed := true, recurses := true, apart := false, narrowed := true }
def ExtentNormalsUptoSaid : Prop := extentNormalsUptoRow.holds Try.pinned (OpenSpec.upto extentNormalsSpec)

/-- 'slabvaultlaw05.ExtentTakes', WHERE WHAT IT READS IS OF BULK AT MOST 1048576: true; the input reads as it did. -/
def extentTakesUptoRow : OpenClaim := { program := "ytkdfafaiabidgaa", sum := "496c2a1f63b78685c6d3fad6e9f0e85618aa662499c01d4e3516d81972c393c6", func := "slabvault/slabvaultlaw05.ExtentTakes", spec := "extentTakes", unfollowed := true, recurses := true, apart := false, narrowed := true }
def ExtentTakesUptoSaid : Prop := extentTakesUptoRow.holds Try.pinned (OpenSpec.upto extentTakesSpec)

/-- 'slabvaultlaw05.ExtentGoods', WHERE WHAT IT READS IS OF BULK AT MOST 1048576: true; the input reads as it did. -/
def extentGoodsUptoRow : OpenClaim := { program := "ytkdfafaiabidgaa", sum := "496c2a1f63b78685c6d3fad6e9f0e85618aa662499c01d4e3516d81972c393c6", func := "slabvault/slabvaultlaw05.ExtentGoods", spec := "extentGoods", unfollowed := true, recurses := true, apart := false, narrowed := true }
def ExtentGoodsUptoSaid : Prop := extentGoodsUptoRow.holds Try.pinned (OpenSpec.upto extentGoodsSpec)

/-- 'slabvaultlaw05.ExtentRests', WHERE WHAT IT READS IS OF BULK AT MOST 1048576: true; the input reads as it did. -/
def extentRestsUptoRow : OpenClaim := { program := "ytkdfafaiabidgaa", sum := "496c2a1f63b78685c6d3fad6e9f0e85618aa662499c01d4e3516d81972c393c6", func := "slabvault/slabvaultlaw05.ExtentRests", spec := "extentRests", unfollowed := true, recurses := true, apart := false, narrowed := true }
def ExtentRestsUptoSaid : Prop := extentRestsUptoRow.holds Try.pinned (OpenSpec.upto extentRestsSpec)

/-- 'slabvaultlaw05.ExtentGives', WHERE WHAT IT READS IS OF BULK AT MOST 1048576: true; the input reads as it did. -/
def extentGivesUptoRow : OpenClaim := { program := "ytkdfafaiabidgaa", sum := "496c2a1f63b78685c6d3fad6e9f0e85618aa662499c01d4e3516d81972c393c6", func := "slabvault/slabvaultlaw05.ExtentGives", spec := "extentGives", unfollowed := true, recurses := true, apart := false, narrowed := true }
def ExtentGivesUptoSaid : Prop := extentGivesUptoRow.holds Try.pinned (OpenSpec.upto extentGivesSpec)

/-- 'slabvaultlaw05.ExtentBack', WHERE WHAT IT READS IS OF BULK AT MOST 1048576: true; the input reads as it did. -/
def extentBackUptoRow : OpenClaim := { program := "ytkdfafaiabidgaa", sum := "496c2a1f63b78685c6d3fad6e9f0e85618aa662499c01d4e3516d81972c393c6", func := "slabvault/slabvaultlaw05.ExtentBack", spec := "extentBack", unfollowed := true, recurses := true, apart := false, narrowed := true }
def ExtentBackUptoSaid : Prop := extentBackUptoRow.holds Try.pinned (OpenSpec.upto extentBackSpec)

/-- 'slabvaultlaw05.ExtentCovers', WHERE WHAT IT READS IS OF BULK AT MOST 1048576: true; the input reads as it did. -/
def extentCoversUptoRow : OpenClaim := { program := "ytkdfafaiabidgaa", sum := "496c2a1f63b78685c6d3fad6e9f0e85618aa662499c01d4e3516d81972c393c6", func := "slabvault/slabvaultlaw05.ExtentCovers", spec := "extentCovers", unfollowed := true, recurses := true, apart := false, narrowed := true }
def ExtentCoversUptoSaid : Prop := extentCoversUptoRow.holds Try.pinned (OpenSpec.upto extentCoversSpec)

end Rows
end Go.Proofs.Ytkdfafaiabidgaa
