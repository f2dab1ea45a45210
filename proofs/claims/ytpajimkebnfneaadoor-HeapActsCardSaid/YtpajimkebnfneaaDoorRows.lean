/-
  NARROWER THAN 'FOR EVERY INPUT', by the rows' own cells (each row's printed sentence says how): HeapNobody: laid · HeapAgain: laid · HeapTurned: laid · HeapActs: laid · HeapBack: laid.
  DERIVED. THE GIVEN ROWS OF THIS SEAT. 5 by the template 'for every input the law returns true; each argument reads behind the call as it read before'; 0 by the template 'total and deterministic' (their statements: YtpajimkebnfneaaDoorTotals.lean).
  GIVEN WITH THE SEED: the statements are not yours to turn. If you find one false, say at which input.
  Laid BY PROGRAM, IN A SANDBOX (cutbox-rows.mjs): the forced cells as the released guide's own fill.sh prints them over the translation c1174a3e4d778084… (all of the seat's roots in one cut). By AI agents, Wed Nov 11 2026. No macro, syntax, notation, axiom, sorry.
-/
import Derived.Test.YtpajimkebnfneaaDoorChecked
import GoSem.Claim
import GoSem.ClaimJoined
import GoSem.ClaimMapViews
import Derived.JoinedTies
import Derived.KernelRfl
namespace Go.Proofs.YtpajimkebnfneaaDoor
/- THE CELL 'sum', in the pinned program and in every row, IS THE sha256 OF THE DUMP (.gsa) THAT YtpajimkebnfneaaDoorProg.lean LOADS. Nothing in Lean hashes anything: it is a label: what it is worth is what the hold of that sum in a sandbox is worth. -/
noncomputable def Tryd.pinned : Pinned := { name := "ytpajimkebnfneaadoor", sum := "c1174a3e4d778084a19f188225a44dc6d77aa5a004ee6de157b25b54d226e03d", checked := Tryd.checked }
namespace Rows
def none {H : Type} : Left H := { results := [], args := [] }

/- WHAT THE LISTED PACKAGE-LEVEL VARIABLES READ AS WHEN THE CALL BEGINS. Each datum BY PROGRAM (the guide's laid-datum.mjs) off the statement by which the dump's own 'gosem.cut.vars' lays the variable. In a bare row this is a premise. The card (YtpajimkebnfneaaDoorCards.lean) ties it to the program's text. -/
def laid_slabvault_check_short {H : Type} : DataW H := .agg [.lit (.int .u32 0), .lit (.int .u32 498536548), .lit (.int .u32 997073096), .lit (.int .u32 651767980), .lit (.int .u32 1994146192), .lit (.int .u32 1802195444), .lit (.int .u32 1303535960), .lit (.int .u32 1342533948), .lit (.int .u32 3988292384), .lit (.int .u32 4027552580), .lit (.int .u32 3604390888), .lit (.int .u32 3412177804), .lit (.int .u32 2607071920), .lit (.int .u32 2262029012), .lit (.int .u32 2685067896), .lit (.int .u32 3183342108)]

/-- 'slabvaultlaw06.HeapNobody': WHATEVER THE INPUT: true; the input reads as it did. -/
def heapNobodySpec : ChangeSpec := { name := "heapNobody", fn := fun _ => fun
  | [d1, d2] => { results := [.lit (.bool true)], args := [d1, d2] }
  | _ => none }
def heapNobodyRow : OpenClaim := { program := "ytpajimkebnfneaadoor", sum := "c1174a3e4d778084a19f188225a44dc6d77aa5a004ee6de157b25b54d226e03d", func := "slabvault/slabvaultlaw06.HeapNobody", spec := "heapNobody", unfollowed := true, recurses := true, named := ["slabvault/check.short"], apart := false, laid := [("slabvault/check.short", laid_slabvault_check_short)] }
def HeapNobodySaid : Prop := heapNobodyRow.holds Tryd.pinned (OpenSpec.ofChange heapNobodySpec)

/-- ITS FALSE NEIGHBOUR: 'it returns false'. Refute it at one input. -/
def heapNobodyWrong : ChangeSpec := { name := "heapNobody", fn := fun _ => fun
  | [d1, d2] => { results := [.lit (.bool false)], args := [d1, d2] }
  | _ => none }
def HeapNobodyWrongFalsely : Prop := heapNobodyRow.holds Tryd.pinned (OpenSpec.ofChange heapNobodyWrong)

/-- 'slabvaultlaw06.HeapAgain': WHATEVER THE INPUT: true; the input reads as it did. -/
def heapAgainSpec : ChangeSpec := { name := "heapAgain", fn := fun _ => fun
  | [d1, d2, d3] => { results := [.lit (.bool true)], args := [d1, d2, d3] }
  | _ => none }
def heapAgainRow : OpenClaim := { program := "ytpajimkebnfneaadoor", sum := "c1174a3e4d778084a19f188225a44dc6d77aa5a004ee6de157b25b54d226e03d", func := "slabvault/slabvaultlaw06.HeapAgain", spec := "heapAgain", unfollowed := true, recurses := true, named := ["slabvault/check.short"], apart := false, laid := [("slabvault/check.short", laid_slabvault_check_short)] }
def HeapAgainSaid : Prop := heapAgainRow.holds Tryd.pinned (OpenSpec.ofChange heapAgainSpec)

/-- ITS FALSE NEIGHBOUR: 'it returns false'. Refute it at one input. -/
def heapAgainWrong : ChangeSpec := { name := "heapAgain", fn := fun _ => fun
  | [d1, d2, d3] => { results := [.lit (.bool false)], args := [d1, d2, d3] }
  | _ => none }
def HeapAgainWrongFalsely : Prop := heapAgainRow.holds Tryd.pinned (OpenSpec.ofChange heapAgainWrong)

/-- 'slabvaultlaw06.HeapTurned': WHATEVER THE INPUT: true; the input reads as it did. -/
def heapTurnedSpec : ChangeSpec := { name := "heapTurned", fn := fun _ => fun
  | [d1, d2, d3] => { results := [.lit (.bool true)], args := [d1, d2, d3] }
  | _ => none }
def heapTurnedRow : OpenClaim := { program := "ytpajimkebnfneaadoor", sum := "c1174a3e4d778084a19f188225a44dc6d77aa5a004ee6de157b25b54d226e03d", func := "slabvault/slabvaultlaw06.HeapTurned", spec := "heapTurned", unfollowed := true, recurses := true, named := ["slabvault/check.short"], apart := false, laid := [("slabvault/check.short", laid_slabvault_check_short)] }
def HeapTurnedSaid : Prop := heapTurnedRow.holds Tryd.pinned (OpenSpec.ofChange heapTurnedSpec)

/-- ITS FALSE NEIGHBOUR: 'it returns false'. Refute it at one input. -/
def heapTurnedWrong : ChangeSpec := { name := "heapTurned", fn := fun _ => fun
  | [d1, d2, d3] => { results := [.lit (.bool false)], args := [d1, d2, d3] }
  | _ => none }
def HeapTurnedWrongFalsely : Prop := heapTurnedRow.holds Tryd.pinned (OpenSpec.ofChange heapTurnedWrong)

/-- 'slabvaultlaw06.HeapActs': WHATEVER THE INPUT: true; the input reads as it did. -/
def heapActsSpec : ChangeSpec := { name := "heapActs", fn := fun _ => fun
  | [d] => { results := [.lit (.bool true)], args := [d] }
  | _ => none }
def heapActsRow : OpenClaim := { program := "ytpajimkebnfneaadoor", sum := "c1174a3e4d778084a19f188225a44dc6d77aa5a004ee6de157b25b54d226e03d", func := "slabvault/slabvaultlaw06.HeapActs", spec := "heapActs", unfollowed := true, recurses := true, named := ["slabvault/check.short"], apart := false, laid := [("slabvault/check.short", laid_slabvault_check_short)] }
def HeapActsSaid : Prop := heapActsRow.holds Tryd.pinned (OpenSpec.ofChange heapActsSpec)

/-- ITS FALSE NEIGHBOUR: 'it returns false'. Refute it at one input. -/
def heapActsWrong : ChangeSpec := { name := "heapActs", fn := fun _ => fun
  | [d] => { results := [.lit (.bool false)], args := [d] }
  | _ => none }
def HeapActsWrongFalsely : Prop := heapActsRow.holds Tryd.pinned (OpenSpec.ofChange heapActsWrong)

/-- 'slabvaultlaw06.HeapBack': WHATEVER THE INPUT: true; the input reads as it did. -/
def heapBackSpec : ChangeSpec := { name := "heapBack", fn := fun _ => fun
  | [d1, d2, d3] => { results := [.lit (.bool true)], args := [d1, d2, d3] }
  | _ => none }
def heapBackRow : OpenClaim := { program := "ytpajimkebnfneaadoor", sum := "c1174a3e4d778084a19f188225a44dc6d77aa5a004ee6de157b25b54d226e03d", func := "slabvault/slabvaultlaw06.HeapBack", spec := "heapBack", unfollowed := true, recurses := true, named := ["slabvault/check.short"], apart := false, laid := [("slabvault/check.short", laid_slabvault_check_short)] }
def HeapBackSaid : Prop := heapBackRow.holds Tryd.pinned (OpenSpec.ofChange heapBackSpec)

/-- ITS FALSE NEIGHBOUR: 'it returns false'. Refute it at one input. -/
def heapBackWrong : ChangeSpec := { name := "heapBack", fn := fun _ => fun
  | [d1, d2, d3] => { results := [.lit (.bool false)], args := [d1, d2, d3] }
  | _ => none }
def HeapBackWrongFalsely : Prop := heapBackRow.holds Tryd.pinned (OpenSpec.ofChange heapBackWrong)

/- THE SECOND FORM. 'bulk': how many values and letters a reading holds, each counted each time it is reached (what is shared counts as often as it is met; a slice's spare places count too). A statement '..UptoSaid' is the law's where the arguments, and the package variables that the reading takes, are together of bulk at most 1048576: NARROWER than '..Said'. Prove '..Said' where nothing that the law and all that it calls make is longer than what came in: it says more and counts as full. Else prove '..UptoSaid'. A law counts once. -/
mutual
def uptoBulk {H : Type} : DataW H → Nat
  | .lit (.string bytes) => bytes.length + 1
  | .lit _ => 1
  | .nil => 1
  | .ptr d => uptoBulk d + 1
  | .slice elems spare => uptoBulkAll elems + uptoBulkAll spare + 1
  | .agg parts => uptoBulkAll parts + 1
  | .iface _ d => uptoBulk d + 1
  | .map entries => uptoBulkEntries entries + 1
  | .held _ => 1
def uptoBulkAll {H : Type} : List (DataW H) → Nat
  | [] => 0
  | d :: r => uptoBulk d + uptoBulkAll r
def uptoBulkEntries {H : Type} : List (Lit × DataW H) → Nat
  | [] => 0
  | x :: r => uptoBulkEntry x + uptoBulkEntries r
def uptoBulkEntry {H : Type} : Lit × DataW H → Nat
  | (.string bytes, d) => bytes.length + uptoBulk d + 1
  | (_, d) => uptoBulk d + 1
 end
def uptoSmall : (H : Type) → List (DataW H) → Bool := fun _ ds => decide (uptoBulkAll ds ≤ 1048576)
def OpenSpec.upto (s : _root_.Go.ChangeSpec) : _root_.Go.OpenSpec := { _root_.Go.OpenSpec.ofChange s with cond := some uptoSmall }

/-- 'slabvaultlaw06.HeapNobody', WHERE WHAT IT READS IS OF BULK AT MOST 1048576: true; the input reads as it did. -/
def heapNobodyUptoRow : OpenClaim := { program := "ytpajimkebnfneaadoor", sum := "c1174a3e4d778084a19f188225a44dc6d77aa5a004ee6de157b25b54d226e03d", func := "slabvault/slabvaultlaw06.HeapNobody", spec := "heapNobody", unfollowed := true, recurses := true, named := ["slabvault/check.short"], apart := false, laid := [("slabvault/check.short", laid_slabvault_check_short)], narrowed := true }
def HeapNobodyUptoSaid : Prop := heapNobodyUptoRow.holds Tryd.pinned (OpenSpec.upto heapNobodySpec)

/-- 'slabvaultlaw06.HeapAgain', WHERE WHAT IT READS IS OF BULK AT MOST 1048576: true; the input reads as it did. -/
def heapAgainUptoRow : OpenClaim := { program := "ytpajimkebnfneaadoor", sum := "c1174a3e4d778084a19f188225a44dc6d77aa5a004ee6de157b25b54d226e03d", func := "slabvault/slabvaultlaw06.HeapAgain", spec := "heapAgain", unfollowed := true, recurses := true, named := ["slabvault/check.short"], apart := false, laid := [("slabvault/check.short", laid_slabvault_check_short)], narrowed := true }
def HeapAgainUptoSaid : Prop := heapAgainUptoRow.holds Tryd.pinned (OpenSpec.upto heapAgainSpec)

/-- 'slabvaultlaw06.HeapTurned', WHERE WHAT IT READS IS OF BULK AT MOST 1048576: true; the input reads as it did. -/
def heapTurnedUptoRow : OpenClaim := { program := "ytpajimkebnfneaadoor", sum := "c1174a3e4d778084a19f188225a44dc6d77aa5a004ee6de157b25b54d226e03d", func := "slabvault/slabvaultlaw06.HeapTurned", spec := "heapTurned", unfollowed := true, recurses := true, named := ["slabvault/check.short"], apart := false, laid := [("slabvault/check.short", laid_slabvault_check_short)], narrowed := true }
def HeapTurnedUptoSaid : Prop := heapTurnedUptoRow.holds Tryd.pinned (OpenSpec.upto heapTurnedSpec)

/-- 'slabvaultlaw06.HeapActs', WHERE WHAT IT READS IS OF BULK AT MOST 1048576: true; the input reads as it did. -/
def heapActsUptoRow : OpenClaim := { program := "ytpajimkebnfneaadoor", sum := "c1174a3e4d778084a19f188225a44dc6d77aa5a004ee6de157b25b54d226e03d", func := "slabvault/slabvaultlaw06.HeapActs", spec := "heapActs", unfollowed := true, recurses := true, named := ["slabvault/check.short"], apart := false, laid := [("slabvault/check.short", laid_slabvault_check_short)], narrowed := true }
def HeapActsUptoSaid : Prop := heapActsUptoRow.holds Tryd.pinned (OpenSpec.upto heapActsSpec)

/-- 'slabvaultlaw06.HeapBack', WHERE WHAT IT READS IS OF BULK AT MOST 1048576: true; the input reads as it did. -/
def heapBackUptoRow : OpenClaim := { program := "ytpajimkebnfneaadoor", sum := "c1174a3e4d778084a19f188225a44dc6d77aa5a004ee6de157b25b54d226e03d", func := "slabvault/slabvaultlaw06.HeapBack", spec := "heapBack", unfollowed := true, recurses := true, named := ["slabvault/check.short"], apart := false, laid := [("slabvault/check.short", laid_slabvault_check_short)], narrowed := true }
def HeapBackUptoSaid : Prop := heapBackUptoRow.holds Tryd.pinned (OpenSpec.upto heapBackSpec)

end Rows
end Go.Proofs.YtpajimkebnfneaaDoor
