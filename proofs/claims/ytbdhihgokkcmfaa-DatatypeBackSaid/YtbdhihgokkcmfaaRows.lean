/-
  NARROWER THAN 'FOR EVERY INPUT', by the rows' own cells (each row's printed sentence says how): DatatypeChecks: loops · DatatypePlaces: loops · DatatypeBytes: loops · DatatypeApart: loops · DatatypeTurns: loops · DatatypeSames: loops · DatatypeKeeps: loops · DatatypeBack: loops.
  DERIVED. THE GIVEN ROWS OF THIS SEAT. 9 by the template 'for every input the law returns true; each argument reads behind the call as it read before'; 0 by the template 'total and deterministic' (their statements: YtbdhihgokkcmfaaTotals.lean).
  GIVEN WITH THE SEED: the statements are not yours to turn. If you find one false, say at which input.
  Laid BY PROGRAM, IN A SANDBOX (cutbox-rows.mjs): the forced cells as the released guide's own fill.sh prints them over the translation c638af7eb1e6b5fb… (all of the seat's roots in one cut). By AI agents, Wed Nov 11 2026. No macro, syntax, notation, axiom, sorry.
-/
import Derived.Test.YtbdhihgokkcmfaaChecked
import GoSem.Claim
import GoSem.ClaimJoined
import GoSem.ClaimMapViews
import Derived.JoinedTies
import Derived.KernelRfl
namespace Go.Proofs.Ytbdhihgokkcmfaa
/- THE CELL 'sum', in the pinned program and in every row, IS THE sha256 OF THE DUMP (.gsa) THAT YtbdhihgokkcmfaaProg.lean LOADS. Nothing in Lean hashes anything: it is a label: what it is worth is what the hold of that sum in a sandbox is worth. -/
noncomputable def Try.pinned : Pinned := { name := "ytbdhihgokkcmfaa", sum := "c638af7eb1e6b5fba944c5b31a31fda80480a9c5bd1a3d805a123a67c9e8d0a6", checked := Try.checked }
namespace Rows
def none {H : Type} : Left H := { results := [], args := [] }

/-- 'slabvaultlaw09.DatatypeChecks': WHATEVER THE INPUT: true; the input reads as it did. -/
def datatypeChecksSpec : ChangeSpec := { name := "datatypeChecks", fn := fun _ => fun
  | [d] => { results := [.lit (.bool true)], args := [d] }
  | _ => none }
def datatypeChecksRow : OpenClaim := { program := "ytbdhihgokkcmfaa", sum := "c638af7eb1e6b5fba944c5b31a31fda80480a9c5bd1a3d805a123a67c9e8d0a6", func := "slabvault/slabvaultlaw09.DatatypeChecks", spec := "datatypeChecks", inPlace := ["internal/bytealg.IndexByteString", "internal/bytealg.IndexString"], unfollowed := true, recurses := true, named := ["internal/bytealg.MaxLen"], loops := true, apart := false }
def DatatypeChecksSaid : Prop := datatypeChecksRow.holds Try.pinned (OpenSpec.ofChange datatypeChecksSpec)

/-- ITS FALSE NEIGHBOUR: 'it returns false'. Refute it at one input. -/
def datatypeChecksWrong : ChangeSpec := { name := "datatypeChecks", fn := fun _ => fun
  | [d] => { results := [.lit (.bool false)], args := [d] }
  | _ => none }
def DatatypeChecksWrongFalsely : Prop := datatypeChecksRow.holds Try.pinned (OpenSpec.ofChange datatypeChecksWrong)

/-- 'slabvaultlaw09.DatatypePlaces': WHATEVER THE INPUT: true; the input reads as it did. -/
def datatypePlacesSpec : ChangeSpec := { name := "datatypePlaces", fn := fun _ => fun
  | [d] => { results := [.lit (.bool true)], args := [d] }
  | _ => none }
def datatypePlacesRow : OpenClaim := { program := "ytbdhihgokkcmfaa", sum := "c638af7eb1e6b5fba944c5b31a31fda80480a9c5bd1a3d805a123a67c9e8d0a6", func := "slabvault/slabvaultlaw09.DatatypePlaces", spec := "datatypePlaces", inPlace := ["internal/bytealg.IndexByteString", "internal/bytealg.IndexString"], unfollowed := true, recurses := true, named := ["internal/bytealg.MaxLen"], loops := true, apart := false }
def DatatypePlacesSaid : Prop := datatypePlacesRow.holds Try.pinned (OpenSpec.ofChange datatypePlacesSpec)

/-- ITS FALSE NEIGHBOUR: 'it returns false'. Refute it at one input. -/
def datatypePlacesWrong : ChangeSpec := { name := "datatypePlaces", fn := fun _ => fun
  | [d] => { results := [.lit (.bool false)], args := [d] }
  | _ => none }
def DatatypePlacesWrongFalsely : Prop := datatypePlacesRow.holds Try.pinned (OpenSpec.ofChange datatypePlacesWrong)

/-- 'slabvaultlaw09.DatatypeBytes': WHATEVER THE INPUT: true; the input reads as it did. -/
def datatypeBytesSpec : ChangeSpec := { name := "datatypeBytes", fn := fun _ => fun
  | [d] => { results := [.lit (.bool true)], args := [d] }
  | _ => none }
def datatypeBytesRow : OpenClaim := { program := "ytbdhihgokkcmfaa", sum := "c638af7eb1e6b5fba944c5b31a31fda80480a9c5bd1a3d805a123a67c9e8d0a6", func := "slabvault/slabvaultlaw09.DatatypeBytes", spec := "datatypeBytes", inPlace := ["internal/bytealg.IndexByteString", "internal/bytealg.IndexString"], unfollowed := true, recurses := true, named := ["internal/bytealg.MaxLen"], loops := true, apart := false }
def DatatypeBytesSaid : Prop := datatypeBytesRow.holds Try.pinned (OpenSpec.ofChange datatypeBytesSpec)

/-- ITS FALSE NEIGHBOUR: 'it returns false'. Refute it at one input. -/
def datatypeBytesWrong : ChangeSpec := { name := "datatypeBytes", fn := fun _ => fun
  | [d] => { results := [.lit (.bool false)], args := [d] }
  | _ => none }
def DatatypeBytesWrongFalsely : Prop := datatypeBytesRow.holds Try.pinned (OpenSpec.ofChange datatypeBytesWrong)

/-- 'slabvaultlaw09.DatatypeApart': WHATEVER THE INPUT: true; the input reads as it did. -/
def datatypeApartSpec : ChangeSpec := { name := "datatypeApart", fn := fun _ => fun
  | [d] => { results := [.lit (.bool true)], args := [d] }
  | _ => none }
def datatypeApartRow : OpenClaim := { program := "ytbdhihgokkcmfaa", sum := "c638af7eb1e6b5fba944c5b31a31fda80480a9c5bd1a3d805a123a67c9e8d0a6", func := "slabvault/slabvaultlaw09.DatatypeApart", spec := "datatypeApart", inPlace := ["internal/bytealg.IndexByteString", "internal/bytealg.IndexString"], unfollowed := true, recurses := true, named := ["internal/bytealg.MaxLen"], loops := true, apart := false }
def DatatypeApartSaid : Prop := datatypeApartRow.holds Try.pinned (OpenSpec.ofChange datatypeApartSpec)

/-- ITS FALSE NEIGHBOUR: 'it returns false'. Refute it at one input. -/
def datatypeApartWrong : ChangeSpec := { name := "datatypeApart", fn := fun _ => fun
  | [d] => { results := [.lit (.bool false)], args := [d] }
  | _ => none }
def DatatypeApartWrongFalsely : Prop := datatypeApartRow.holds Try.pinned (OpenSpec.ofChange datatypeApartWrong)

/-- 'slabvaultlaw09.DatatypeTurns': WHATEVER THE INPUT: true; the input reads as it did. -/
def datatypeTurnsSpec : ChangeSpec := { name := "datatypeTurns", fn := fun _ => fun
  | [d1, d2] => { results := [.lit (.bool true)], args := [d1, d2] }
  | _ => none }
def datatypeTurnsRow : OpenClaim := { program := "ytbdhihgokkcmfaa", sum := "c638af7eb1e6b5fba944c5b31a31fda80480a9c5bd1a3d805a123a67c9e8d0a6", func := "slabvault/slabvaultlaw09.DatatypeTurns", spec := "datatypeTurns", inPlace := ["internal/bytealg.IndexByteString", "internal/bytealg.IndexString"], unfollowed := true, recurses := true, named := ["internal/bytealg.MaxLen"], loops := true, apart := false }
def DatatypeTurnsSaid : Prop := datatypeTurnsRow.holds Try.pinned (OpenSpec.ofChange datatypeTurnsSpec)

/-- ITS FALSE NEIGHBOUR: 'it returns false'. Refute it at one input. -/
def datatypeTurnsWrong : ChangeSpec := { name := "datatypeTurns", fn := fun _ => fun
  | [d1, d2] => { results := [.lit (.bool false)], args := [d1, d2] }
  | _ => none }
def DatatypeTurnsWrongFalsely : Prop := datatypeTurnsRow.holds Try.pinned (OpenSpec.ofChange datatypeTurnsWrong)

/-- 'slabvaultlaw09.DatatypeSames': WHATEVER THE INPUT: true; the input reads as it did. -/
def datatypeSamesSpec : ChangeSpec := { name := "datatypeSames", fn := fun _ => fun
  | [d1, d2] => { results := [.lit (.bool true)], args := [d1, d2] }
  | _ => none }
def datatypeSamesRow : OpenClaim := { program := "ytbdhihgokkcmfaa", sum := "c638af7eb1e6b5fba944c5b31a31fda80480a9c5bd1a3d805a123a67c9e8d0a6", func := "slabvault/slabvaultlaw09.DatatypeSames", spec := "datatypeSames", inPlace := ["internal/bytealg.IndexByteString", "internal/bytealg.IndexString"], unfollowed := true, recurses := true, named := ["internal/bytealg.MaxLen"], loops := true, apart := false }
def DatatypeSamesSaid : Prop := datatypeSamesRow.holds Try.pinned (OpenSpec.ofChange datatypeSamesSpec)

/-- ITS FALSE NEIGHBOUR: 'it returns false'. Refute it at one input. -/
def datatypeSamesWrong : ChangeSpec := { name := "datatypeSames", fn := fun _ => fun
  | [d1, d2] => { results := [.lit (.bool false)], args := [d1, d2] }
  | _ => none }
def DatatypeSamesWrongFalsely : Prop := datatypeSamesRow.holds Try.pinned (OpenSpec.ofChange datatypeSamesWrong)

/-- 'slabvaultlaw09.DatatypeKeeps': WHATEVER THE INPUT: true; the input reads as it did. -/
def datatypeKeepsSpec : ChangeSpec := { name := "datatypeKeeps", fn := fun _ => fun
  | [d1, d2] => { results := [.lit (.bool true)], args := [d1, d2] }
  | _ => none }
def datatypeKeepsRow : OpenClaim := { program := "ytbdhihgokkcmfaa", sum := "c638af7eb1e6b5fba944c5b31a31fda80480a9c5bd1a3d805a123a67c9e8d0a6", func := "slabvault/slabvaultlaw09.DatatypeKeeps", spec := "datatypeKeeps", inPlace := ["internal/bytealg.IndexByteString", "internal/bytealg.IndexString"], unfollowed := true, recurses := true, named := ["internal/bytealg.MaxLen"], loops := true, apart := false }
def DatatypeKeepsSaid : Prop := datatypeKeepsRow.holds Try.pinned (OpenSpec.ofChange datatypeKeepsSpec)

/-- ITS FALSE NEIGHBOUR: 'it returns false'. Refute it at one input. -/
def datatypeKeepsWrong : ChangeSpec := { name := "datatypeKeeps", fn := fun _ => fun
  | [d1, d2] => { results := [.lit (.bool false)], args := [d1, d2] }
  | _ => none }
def DatatypeKeepsWrongFalsely : Prop := datatypeKeepsRow.holds Try.pinned (OpenSpec.ofChange datatypeKeepsWrong)

/-- 'slabvaultlaw09.DatatypeLoads': WHATEVER THE INPUT: true; the input reads as it did. -/
def datatypeLoadsSpec : ChangeSpec := { name := "datatypeLoads", fn := fun _ => fun
  | [d] => { results := [.lit (.bool true)], args := [d] }
  | _ => none }
def datatypeLoadsRow : OpenClaim := { program := "ytbdhihgokkcmfaa", sum := "c638af7eb1e6b5fba944c5b31a31fda80480a9c5bd1a3d805a123a67c9e8d0a6", func := "slabvault/slabvaultlaw09.DatatypeLoads", spec := "datatypeLoads", inPlace := ["internal/bytealg.IndexByteString", "internal/bytealg.IndexString"], unfollowed := true, recurses := true, named := ["internal/bytealg.MaxLen"], apart := false }
def DatatypeLoadsSaid : Prop := datatypeLoadsRow.holds Try.pinned (OpenSpec.ofChange datatypeLoadsSpec)

/-- ITS FALSE NEIGHBOUR: 'it returns false'. Refute it at one input. -/
def datatypeLoadsWrong : ChangeSpec := { name := "datatypeLoads", fn := fun _ => fun
  | [d] => { results := [.lit (.bool false)], args := [d] }
  | _ => none }
def DatatypeLoadsWrongFalsely : Prop := datatypeLoadsRow.holds Try.pinned (OpenSpec.ofChange datatypeLoadsWrong)

/-- 'slabvaultlaw09.DatatypeBack': WHATEVER THE INPUT: true; the input reads as it did. -/
def datatypeBackSpec : ChangeSpec := { name := "datatypeBack", fn := fun _ => fun
  | [d1, d2] => { results := [.lit (.bool true)], args := [d1, d2] }
  | _ => none }
def datatypeBackRow : OpenClaim := { program := "ytbdhihgokkcmfaa", sum := "c638af7eb1e6b5fba944c5b31a31fda80480a9c5bd1a3d805a123a67c9e8d0a6", func := "slabvault/slabvaultlaw09.DatatypeBack", spec := "datatypeBack", inPlace := ["internal/bytealg.IndexByteString", "internal/bytealg.IndexString"], unfollowed := true, recurses := true, named := ["internal/bytealg.MaxLen"], loops := true, apart := false }
def DatatypeBackSaid : Prop := datatypeBackRow.holds Try.pinned (OpenSpec.ofChange datatypeBackSpec)

/-- ITS FALSE NEIGHBOUR: 'it returns false'. Refute it at one input. -/
def datatypeBackWrong : ChangeSpec := { name := "datatypeBack", fn := fun _ => fun
  | [d1, d2] => { results := [.lit (.bool false)], args := [d1, d2] }
  | _ => none }
def DatatypeBackWrongFalsely : Prop := datatypeBackRow.holds Try.pinned (OpenSpec.ofChange datatypeBackWrong)

/- THE SECOND FORM. 'bulk': how many values and letters a reading holds, each counted each time it is reached (what is shared counts as often as it is met; a slice's spare places count too). A statement '..UptoSaid' is the law's where the arguments, and the package variables that the reading takes, are together of bulk at most 1048576: NARROWER than '..Said'. Prove '..Said' where nothing that the law and all that it calls make is longer than what came in: it says more and counts as full. Else prove '..UptoSaid'. A law counts once. -/
mutual
def uptoBulk {H : Type} : DataW H → Nat
  | .lit (.string bytes) => bytes.length + 1
  | .lit _ => 1
  | .nil => 1
  | .ptr d => uptoBulk d + 1
  | .slice elems spare => uptoBulkAll elems + uptoBulkAll spare + 1
  | .agg parts => uptoBulkAll parts + 1
  | .iface _ d => uptoBulk d + 1
  | .map entries => uptoBulkEntries entries + 1
  | .held _ => 1
def uptoBulkAll {H : Type} : List (DataW H) → Nat
  | [] => 0
  | d :: r => uptoBulk d + uptoBulkAll r
def uptoBulkEntries {H : Type} : List (Lit × DataW H) → Nat
  | [] => 0
  | x :: r => uptoBulkEntry x + uptoBulkEntries r
def uptoBulkEntry {H : Type} : Lit × DataW H → Nat
  | (.string bytes, d) => bytes.length + uptoBulk d + 1
  | (_, d) => uptoBulk d + 1
 end
def uptoSmall : (H : Type) → List (DataW H) → Bool := fun _ ds => decide (uptoBulkAll ds ≤ 1048576)
def OpenSpec.upto (s : _root_.Go.ChangeSpec) : _root_.Go.OpenSpec := { _root_.Go.OpenSpec.ofChange s with cond := some uptoSmall }

/-- 'slabvaultlaw09.DatatypeChecks', WHERE WHAT IT READS IS OF BULK AT MOST 1048576: true; the input reads as it did. -/
def datatypeChecksUptoRow : OpenClaim := { program := "ytbdhihgokkcmfaa", sum := "c638af7eb1e6b5fba944c5b31a31fda80480a9c5bd1a3d805a123a67c9e8d0a6", func := "slabvault/slabvaultlaw09.DatatypeChecks", spec := "datatypeChecks", inPlace := ["internal/bytealg.IndexByteString", "internal/bytealg.IndexString"], unfollowed := true, recurses := true, named := ["internal/bytealg.MaxLen"], loops := true, apart := false, narrowed := true }
def DatatypeChecksUptoSaid : Prop := datatypeChecksUptoRow.holds Try.pinned (OpenSpec.upto datatypeChecksSpec)

/-- 'slabvaultlaw09.DatatypePlaces', WHERE WHAT IT READS IS OF BULK AT MOST 1048576: true; the input reads as it did. -/
def datatypePlacesUptoRow : OpenClaim := { program := "ytbdhihgokkcmfaa", sum := "c638af7eb1e6b5fba944c5b31a31fda80480a9c5bd1a3d805a123a67c9e8d0a6", func := "slabvault/slabvaultlaw09.DatatypePlaces", spec := "datatypePlaces", inPlace := ["internal/bytealg.IndexByteString", "internal/bytealg.IndexString"], unfollowed := true, recurses := true, named := ["internal/bytealg.MaxLen"], loops := true, apart := false, narrowed := true }
def DatatypePlacesUptoSaid : Prop := datatypePlacesUptoRow.holds Try.pinned (OpenSpec.upto datatypePlacesSpec)

/-- 'slabvaultlaw09.DatatypeBytes', WHERE WHAT IT READS IS OF BULK AT MOST 1048576: true; the input reads as it did. -/
def datatypeBytesUptoRow : OpenClaim := { program := "ytbdhihgokkcmfaa", sum := "c638af7eb1e6b5fba944c5b31a31fda80480a9c5bd1a3d805a123a67c9e8d0a6", func := "slabvault/slabvaultlaw09.DatatypeBytes", spec := "datatypeBytes", inPlace := ["internal/bytealg.IndexByteString", "internal/bytealg.IndexString"], unfollowed := true, recurses := true, named := ["internal/bytealg.MaxLen"], loops := true, apart := false, narrowed := true }
def DatatypeBytesUptoSaid : Prop := datatypeBytesUptoRow.holds Try.pinned (OpenSpec.upto datatypeBytesSpec)

/-- 'slabvaultlaw09.DatatypeApart', WHERE WHAT IT READS IS OF BULK AT MOST 1048576: true; the input reads as it did. -/
def datatypeApartUptoRow : OpenClaim := { program := "ytbdhihgokkcmfaa", sum := "c638af7eb1e6b5fba944c5b31a31fda80480a9c5bd1a3d805a123a67c9e8d0a6", func := "slabvault/slabvaultlaw09.DatatypeApart", spec := "datatypeApart", inPlace := ["internal/bytealg.IndexByteString", "internal/bytealg.IndexString"], unfollowed := true, recurses := true, named := ["internal/bytealg.MaxLen"], loops := true, apart := false, narrowed := true }
def DatatypeApartUptoSaid : Prop := datatypeApartUptoRow.holds Try.pinned (OpenSpec.upto datatypeApartSpec)

/-- 'slabvaultlaw09.DatatypeTurns', WHERE WHAT IT READS IS OF BULK AT MOST 1048576: true; the input reads as it did. -/
def datatypeTurnsUptoRow : OpenClaim := { program := "ytbdhihgokkcmfaa", sum := "c638af7eb1e6b5fba944c5b31a31fda80480a9c5bd1a3d805a123a67c9e8d0a6", func := "slabvault/slabvaultlaw09.DatatypeTurns", spec := "datatypeTurns", inPlace := ["internal/bytealg.IndexByteString", "internal/bytealg.IndexString"], unfollowed := true, recurses := true, named := ["internal/bytealg.MaxLen"], loops := true, apart := false, narrowed := true }
def DatatypeTurnsUptoSaid : Prop := datatypeTurnsUptoRow.holds Try.pinned (OpenSpec.upto datatypeTurnsSpec)

/-- 'slabvaultlaw09.DatatypeSames', WHERE WHAT IT READS IS OF BULK AT MOST 1048576: true; the input reads as it did. -/
def datatypeSamesUptoRow : OpenClaim := { program := "ytbdhihgokkcmfaa", sum := "c638af7eb1e6b5fba944c5b31a31fda80480a9c5bd1a3d805a123a67c9e8d0a6", func := "slabvault/slabvaultlaw09.DatatypeSames", spec := "datatypeSames", inPlace := ["internal/bytealg.IndexByteString", "internal/bytealg.IndexString"], unfollowed := true, recurses := true, named := ["internal/bytealg.MaxLen"], loops := true, apart := false, narrowed := true }
def DatatypeSamesUptoSaid : Prop := datatypeSamesUptoRow.holds Try.pinned (OpenSpec.upto datatypeSamesSpec)

/-- 'slabvaultlaw09.DatatypeKeeps', WHERE WHAT IT READS IS OF BULK AT MOST 1048576: true; the input reads as it did. -/
def datatypeKeepsUptoRow : OpenClaim := { program := "ytbdhihgokkcmfaa", sum := "c638af7eb1e6b5fba944c5b31a31fda80480a9c5bd1a3d805a123a67c9e8d0a6", func := "slabvault/slabvaultlaw09.DatatypeKeeps", spec := "datatypeKeeps", inPlace := ["internal/bytealg.IndexByteString", "internal/bytealg.IndexString"], unfollowed := true, recurses := true, named := ["internal/bytealg.MaxLen"], loops := true, apart := false, narrowed := true }
def DatatypeKeepsUptoSaid : Prop := datatypeKeepsUptoRow.holds Try.pinned (OpenSpec.upto datatypeKeepsSpec)

/-- 'slabvaultlaw09.DatatypeLoads', WHERE WHAT IT READS IS OF BULK AT MOST 1048576: true; the input reads as it did. -/
def datatypeLoadsUptoRow : OpenClaim := { program := "ytbdhihgokkcmfaa", sum := "c638af7eb1e6b5fba944c5b31a31fda80480a9c5bd1a3d805a123a67c9e8d0a6", func := "slabvault/slabvaultlaw09.DatatypeLoads", spec := "datatypeLoads", inPlace := ["internal/bytealg.IndexByteString", "internal/bytealg.IndexString"], unfollowed := true, recurses := true, named := ["internal/bytealg.MaxLen"], apart := false, narrowed := true }
def DatatypeLoadsUptoSaid : Prop := datatypeLoadsUptoRow.holds Try.pinned (OpenSpec.upto datatypeLoadsSpec)

/-- 'slabvaultlaw09.DatatypeBack', WHERE WHAT IT READS IS OF BULK AT MOST 1048576: true; the input reads as it did. -/
def datatypeBackUptoRow : OpenClaim := { program := "ytbdhihgokkcmfaa", sum := "c638af7eb1e6b5fba944c5b31a31fda80480a9c5bd1a3d805a123a67c9e8d0a6", func := "slabvault/slabvaultlaw09.DatatypeBack", spec := "datatypeBack", inPlace := ["internal/bytealg.IndexByteString", "internal/bytealg.IndexString"], unfollowed := true, recurses := true, named := ["internal/bytealg.MaxLen"], loops := true, apart := false, narrowed := true }
def DatatypeBackUptoSaid : Prop := datatypeBackUptoRow.holds Try.pinned (OpenSpec.upto datatypeBackSpec)

end Rows
end Go.Proofs.Ytbdhihgokkcmfaa
