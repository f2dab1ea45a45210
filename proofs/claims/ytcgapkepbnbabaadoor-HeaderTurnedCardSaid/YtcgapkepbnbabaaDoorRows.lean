/-
  NARROWER THAN 'FOR EVERY INPUT', by the rows' own cells (each row's printed sentence says how): HeaderSizes: laid · HeaderLays: laid · HeaderRoom: laid · HeaderLoads: laid · HeaderBack: laid · HeaderTurned: laid.
  DERIVED. THE GIVEN ROWS OF THIS SEAT. 6 by the template 'for every input the law returns true; each argument reads behind the call as it read before'; 0 by the template 'total and deterministic' (their statements: YtcgapkepbnbabaaDoorTotals.lean).
  GIVEN WITH THE SEED: the statements are not yours to turn. If you find one false, say at which input.
  Laid BY PROGRAM, IN A SANDBOX (cutbox-rows.mjs): the forced cells as the released guide's own fill.sh prints them over the translation cabfd0edf5d7b28a… (all of the seat's roots in one cut). By AI agents, Wed Nov 11 2026. No macro, syntax, notation, axiom, sorry.
-/
import Derived.Test.YtcgapkepbnbabaaDoorChecked
import GoSem.Claim
import GoSem.ClaimJoined
import GoSem.ClaimMapViews
import Derived.JoinedTies
import Derived.KernelRfl
namespace Go.Proofs.YtcgapkepbnbabaaDoor
/- THE CELL 'sum', in the pinned program and in every row, IS THE sha256 OF THE DUMP (.gsa) THAT YtcgapkepbnbabaaDoorProg.lean LOADS. Nothing in Lean hashes anything: it is a label: what it is worth is what the hold of that sum in a sandbox is worth. -/
noncomputable def Tryd.pinned : Pinned := { name := "ytcgapkepbnbabaadoor", sum := "cabfd0edf5d7b28a04e681c632018c415b08c652fc5d1206bd299db752f0d0b0", checked := Tryd.checked }
namespace Rows
def none {H : Type} : Left H := { results := [], args := [] }

/- WHAT THE LISTED PACKAGE-LEVEL VARIABLES READ AS WHEN THE CALL BEGINS. Each datum BY PROGRAM (the guide's laid-datum.mjs) off the statement by which the dump's own 'gosem.cut.vars' lays the variable. In a bare row this is a premise. The card (YtcgapkepbnbabaaDoorCards.lean) ties it to the program's text. -/
def laid_slabvault_check_short {H : Type} : DataW H := .agg [.lit (.int .u32 0), .lit (.int .u32 498536548), .lit (.int .u32 997073096), .lit (.int .u32 651767980), .lit (.int .u32 1994146192), .lit (.int .u32 1802195444), .lit (.int .u32 1303535960), .lit (.int .u32 1342533948), .lit (.int .u32 3988292384), .lit (.int .u32 4027552580), .lit (.int .u32 3604390888), .lit (.int .u32 3412177804), .lit (.int .u32 2607071920), .lit (.int .u32 2262029012), .lit (.int .u32 2685067896), .lit (.int .u32 3183342108)]

/-- 'slabvaultlaw08.HeaderSizes': WHATEVER THE INPUT: true; the input reads as it did. -/
def headerSizesSpec : ChangeSpec := { name := "headerSizes", fn := fun _ => fun
  | [d] => { results := [.lit (.bool true)], args := [d] }
  | _ => none }
def headerSizesRow : OpenClaim := { program := "ytcgapkepbnbabaadoor", sum := "cabfd0edf5d7b28a04e681c632018c415b08c652fc5d1206bd299db752f0d0b0", func := "slabvault/slabvaultlaw08.HeaderSizes", spec := "headerSizes", unfollowed := true, recurses := true, named := ["slabvault/check.short"], apart := false, laid := [("slabvault/check.short", laid_slabvault_check_short)] }
def HeaderSizesSaid : Prop := headerSizesRow.holds Tryd.pinned (OpenSpec.ofChange headerSizesSpec)

/-- ITS FALSE NEIGHBOUR: 'it returns false'. Refute it at one input. -/
def headerSizesWrong : ChangeSpec := { name := "headerSizes", fn := fun _ => fun
  | [d] => { results := [.lit (.bool false)], args := [d] }
  | _ => none }
def HeaderSizesWrongFalsely : Prop := headerSizesRow.holds Tryd.pinned (OpenSpec.ofChange headerSizesWrong)

/-- 'slabvaultlaw08.HeaderLays': WHATEVER THE INPUT: true; the input reads as it did. -/
def headerLaysSpec : ChangeSpec := { name := "headerLays", fn := fun _ => fun
  | [d1, d2] => { results := [.lit (.bool true)], args := [d1, d2] }
  | _ => none }
def headerLaysRow : OpenClaim := { program := "ytcgapkepbnbabaadoor", sum := "cabfd0edf5d7b28a04e681c632018c415b08c652fc5d1206bd299db752f0d0b0", func := "slabvault/slabvaultlaw08.HeaderLays", spec := "headerLays", unfollowed := true, recurses := true, named := ["slabvault/check.short"], apart := false, laid := [("slabvault/check.short", laid_slabvault_check_short)] }
def HeaderLaysSaid : Prop := headerLaysRow.holds Tryd.pinned (OpenSpec.ofChange headerLaysSpec)

/-- ITS FALSE NEIGHBOUR: 'it returns false'. Refute it at one input. -/
def headerLaysWrong : ChangeSpec := { name := "headerLays", fn := fun _ => fun
  | [d1, d2] => { results := [.lit (.bool false)], args := [d1, d2] }
  | _ => none }
def HeaderLaysWrongFalsely : Prop := headerLaysRow.holds Tryd.pinned (OpenSpec.ofChange headerLaysWrong)

/-- 'slabvaultlaw08.HeaderRoom': WHATEVER THE INPUT: true; the input reads as it did. -/
def headerRoomSpec : ChangeSpec := { name := "headerRoom", fn := fun _ => fun
  | [d1, d2] => { results := [.lit (.bool true)], args := [d1, d2] }
  | _ => none }
def headerRoomRow : OpenClaim := { program := "ytcgapkepbnbabaadoor", sum := "cabfd0edf5d7b28a04e681c632018c415b08c652fc5d1206bd299db752f0d0b0", func := "slabvault/slabvaultlaw08.HeaderRoom", spec := "headerRoom", unfollowed := true, recurses := true, named := ["slabvault/check.short"], apart := false, laid := [("slabvault/check.short", laid_slabvault_check_short)] }
def HeaderRoomSaid : Prop := headerRoomRow.holds Tryd.pinned (OpenSpec.ofChange headerRoomSpec)

/-- ITS FALSE NEIGHBOUR: 'it returns false'. Refute it at one input. -/
def headerRoomWrong : ChangeSpec := { name := "headerRoom", fn := fun _ => fun
  | [d1, d2] => { results := [.lit (.bool false)], args := [d1, d2] }
  | _ => none }
def HeaderRoomWrongFalsely : Prop := headerRoomRow.holds Tryd.pinned (OpenSpec.ofChange headerRoomWrong)

/-- 'slabvaultlaw08.HeaderLoads': WHATEVER THE INPUT: true; the input reads as it did. -/
def headerLoadsSpec : ChangeSpec := { name := "headerLoads", fn := fun _ => fun
  | [d1, d2] => { results := [.lit (.bool true)], args := [d1, d2] }
  | _ => none }
def headerLoadsRow : OpenClaim := { program := "ytcgapkepbnbabaadoor", sum := "cabfd0edf5d7b28a04e681c632018c415b08c652fc5d1206bd299db752f0d0b0", func := "slabvault/slabvaultlaw08.HeaderLoads", spec := "headerLoads", unfollowed := true, recurses := true, named := ["slabvault/check.short"], apart := false, laid := [("slabvault/check.short", laid_slabvault_check_short)] }
def HeaderLoadsSaid : Prop := headerLoadsRow.holds Tryd.pinned (OpenSpec.ofChange headerLoadsSpec)

/-- ITS FALSE NEIGHBOUR: 'it returns false'. Refute it at one input. -/
def headerLoadsWrong : ChangeSpec := { name := "headerLoads", fn := fun _ => fun
  | [d1, d2] => { results := [.lit (.bool false)], args := [d1, d2] }
  | _ => none }
def HeaderLoadsWrongFalsely : Prop := headerLoadsRow.holds Tryd.pinned (OpenSpec.ofChange headerLoadsWrong)

/-- 'slabvaultlaw08.HeaderBack': WHATEVER THE INPUT: true; the input reads as it did. -/
def headerBackSpec : ChangeSpec := { name := "headerBack", fn := fun _ => fun
  | [d1, d2] => { results := [.lit (.bool true)], args := [d1, d2] }
  | _ => none }
def headerBackRow : OpenClaim := { program := "ytcgapkepbnbabaadoor", sum := "cabfd0edf5d7b28a04e681c632018c415b08c652fc5d1206bd299db752f0d0b0", func := "slabvault/slabvaultlaw08.HeaderBack", spec := "headerBack", unfollowed := true, recurses := true, named := ["slabvault/check.short"], apart := false, laid := [("slabvault/check.short", laid_slabvault_check_short)] }
def HeaderBackSaid : Prop := headerBackRow.holds Tryd.pinned (OpenSpec.ofChange headerBackSpec)

/-- ITS FALSE NEIGHBOUR: 'it returns false'. Refute it at one input. -/
def headerBackWrong : ChangeSpec := { name := "headerBack", fn := fun _ => fun
  | [d1, d2] => { results := [.lit (.bool false)], args := [d1, d2] }
  | _ => none }
def HeaderBackWrongFalsely : Prop := headerBackRow.holds Tryd.pinned (OpenSpec.ofChange headerBackWrong)

/-- 'slabvaultlaw08.HeaderTurned': WHATEVER THE INPUT: true; the input reads as it did. -/
def headerTurnedSpec : ChangeSpec := { name := "headerTurned", fn := fun _ => fun
  | [d1, d2, d3] => { results := [.lit (.bool true)], args := [d1, d2, d3] }
  | _ => none }
def headerTurnedRow : OpenClaim := { program := "ytcgapkepbnbabaadoor", sum := "cabfd0edf5d7b28a04e681c632018c415b08c652fc5d1206bd299db752f0d0b0", func := "slabvault/slabvaultlaw08.HeaderTurned", spec := "headerTurned", unfollowed := true, recurses := true, named := ["slabvault/check.short"], apart := false, laid := [("slabvault/check.short", laid_slabvault_check_short)] }
def HeaderTurnedSaid : Prop := headerTurnedRow.holds Tryd.pinned (OpenSpec.ofChange headerTurnedSpec)

/-- ITS FALSE NEIGHBOUR: 'it returns false'. Refute it at one input. -/
def headerTurnedWrong : ChangeSpec := { name := "headerTurned", fn := fun _ => fun
  | [d1, d2, d3] => { results := [.lit (.bool false)], args := [d1, d2, d3] }
  | _ => none }
def HeaderTurnedWrongFalsely : Prop := headerTurnedRow.holds Tryd.pinned (OpenSpec.ofChange headerTurnedWrong)

/- THE SECOND FORM. 'bulk': how many values and letters a reading holds, each counted each time it is reached (what is shared counts as often as it is met; a slice's spare places count too). A statement '..UptoSaid' is the law's where the arguments, and the package variables that the reading takes, are together of bulk at most 1048576: NARROWER than '..Said'. Prove '..Said' where nothing that the law and all that it calls make is longer than what came in: it says more and counts as full. Else prove '..UptoSaid'. A law counts once. -/
mutual
def uptoBulk {H : Type} : DataW H → Nat
  | .lit (.string bytes) => bytes.length + 1
  | .lit _ => 1
  | .nil => 1
  | .ptr d => uptoBulk d + 1
  | .slice elems spare => uptoBulkAll elems + uptoBulkAll spare + 1
  | .agg parts => uptoBulkAll parts + 1
  | .iface _ d => uptoBulk d + 1
  | .map entries => uptoBulkEntries entries + 1
  | .held _ => 1
def uptoBulkAll {H : Type} : List (DataW H) → Nat
  | [] => 0
  | d :: r => uptoBulk d + uptoBulkAll r
def uptoBulkEntries {H : Type} : List (Lit × DataW H) → Nat
  | [] => 0
  | x :: r => uptoBulkEntry x + uptoBulkEntries r
def uptoBulkEntry {H : Type} : Lit × DataW H → Nat
  | (.string bytes, d) => bytes.length + uptoBulk d + 1
  | (_, d) => uptoBulk d + 1
 end
def uptoSmall : (H : Type) → List (DataW H) → Bool := fun _ ds => decide (uptoBulkAll ds ≤ 1048576)
def OpenSpec.upto (s : _root_.Go.ChangeSpec) : _root_.Go.OpenSpec := { _root_.Go.OpenSpec.ofChange s with cond := some uptoSmall }

/-- 'slabvaultlaw08.HeaderSizes', WHERE WHAT IT READS IS OF BULK AT MOST 1048576: true; the input reads as it did. -/
def headerSizesUptoRow : OpenClaim := { program := "ytcgapkepbnbabaadoor", sum := "cabfd0edf5d7b28a04e681c632018c415b08c652fc5d1206bd299db752f0d0b0", func := "slabvault/slabvaultlaw08.HeaderSizes", spec := "headerSizes", unfollowed := true, recurses := true, named := ["slabvault/check.short"], apart := false, laid := [("slabvault/check.short", laid_slabvault_check_short)], narrowed := true }
def HeaderSizesUptoSaid : Prop := headerSizesUptoRow.holds Tryd.pinned (OpenSpec.upto headerSizesSpec)

/-- 'slabvaultlaw08.HeaderLays', WHERE WHAT IT READS IS OF BULK AT MOST 1048576: true; the input reads as it did. -/
def headerLaysUptoRow : OpenClaim := { program := "ytcgapkepbnbabaadoor", sum := "cabfd0edf5d7b28a04e681c632018c415b08c652fc5d1206bd299db752f0d0b0", func := "slabvault/slabvaultlaw08.HeaderLays", spec := "headerLays", unfollowed := true, recurses := true, named := ["slabvault/check.short"], apart := false, laid := [("slabvault/check.short", laid_slabvault_check_short)], narrowed := true }
def HeaderLaysUptoSaid : Prop := headerLaysUptoRow.holds Tryd.pinned (OpenSpec.upto headerLaysSpec)

/-- 'slabvaultlaw08.HeaderRoom', WHERE WHAT IT READS IS OF BULK AT MOST 1048576: true; the input reads as it did. -/
def headerRoomUptoRow : OpenClaim := { program := "ytcgapkepbnbabaadoor", sum := "cabfd0edf5d7b28a04e681c632018c415b08c652fc5d1206bd299db752f0d0b0", func := "slabvault/slabvaultlaw08.HeaderRoom", spec := "headerRoom", unfollowed := true, recurses := true, named := ["slabvault/check.short"], apart := false, laid := [("slabvault/check.short", laid_slabvault_check_short)], narrowed := true }
def HeaderRoomUptoSaid : Prop := headerRoomUptoRow.holds Tryd.pinned (OpenSpec.upto headerRoomSpec)

/-- 'slabvaultlaw08.HeaderLoads', WHERE WHAT IT READS IS OF BULK AT MOST 1048576: true; the input reads as it did. -/
def headerLoadsUptoRow : OpenClaim := { program := "ytcgapkepbnbabaadoor", sum := "cabfd0edf5d7b28a04e681c632018c415b08c652fc5d1206bd299db752f0d0b0", func := "slabvault/slabvaultlaw08.HeaderLoads", spec := "headerLoads", unfollowed := true, recurses := true, named := ["slabvault/check.short"], apart := false, laid := [("slabvault/check.short", laid_slabvault_check_short)], narrowed := true }
def HeaderLoadsUptoSaid : Prop := headerLoadsUptoRow.holds Tryd.pinned (OpenSpec.upto headerLoadsSpec)

/-- 'slabvaultlaw08.HeaderBack', WHERE WHAT IT READS IS OF BULK AT MOST 1048576: true; the input reads as it did. -/
def headerBackUptoRow : OpenClaim := { program := "ytcgapkepbnbabaadoor", sum := "cabfd0edf5d7b28a04e681c632018c415b08c652fc5d1206bd299db752f0d0b0", func := "slabvault/slabvaultlaw08.HeaderBack", spec := "headerBack", unfollowed := true, recurses := true, named := ["slabvault/check.short"], apart := false, laid := [("slabvault/check.short", laid_slabvault_check_short)], narrowed := true }
def HeaderBackUptoSaid : Prop := headerBackUptoRow.holds Tryd.pinned (OpenSpec.upto headerBackSpec)

/-- 'slabvaultlaw08.HeaderTurned', WHERE WHAT IT READS IS OF BULK AT MOST 1048576: true; the input reads as it did. -/
def headerTurnedUptoRow : OpenClaim := { program := "ytcgapkepbnbabaadoor", sum := "cabfd0edf5d7b28a04e681c632018c415b08c652fc5d1206bd299db752f0d0b0", func := "slabvault/slabvaultlaw08.HeaderTurned", spec := "headerTurned", unfollowed := true, recurses := true, named := ["slabvault/check.short"], apart := false, laid := [("slabvault/check.short", laid_slabvault_check_short)], narrowed := true }
def HeaderTurnedUptoSaid : Prop := headerTurnedUptoRow.holds Tryd.pinned (OpenSpec.upto headerTurnedSpec)

end Rows
end Go.Proofs.YtcgapkepbnbabaaDoor
