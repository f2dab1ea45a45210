/-
  No cell of these rows narrows 'for every input' (looked for: loops, veiled, ifaces, maps, wideKeys, modest, calm, conditions, laid).
  DERIVED. THE GIVEN ROWS OF THIS SEAT. 11 by the template 'for every input the law returns true; each argument reads behind the call as it read before'; 0 by the template 'total and deterministic' (their statements: YtmhgbpgilhboeaaTotals.lean).
  GIVEN WITH THE SEED: the statements are not yours to turn. If you find one false, say at which input.
  Laid BY PROGRAM, IN A SANDBOX (cutbox-rows.mjs): the forced cells as the released guide's own fill.sh prints them over the translation c3b093f8ce135860… (all of the seat's roots in one cut). By AI agents, Wed Nov 11 2026. No macro, syntax, notation, axiom, sorry.
-/
import Derived.Test.YtmhgbpgilhboeaaChecked
import GoSem.Claim
import GoSem.ClaimJoined
import GoSem.ClaimMapViews
import Derived.JoinedTies
import Derived.KernelRfl
namespace Go.Proofs.Ytmhgbpgilhboeaa
/- THE CELL 'sum', in the pinned program and in every row, IS THE sha256 OF THE DUMP (.gsa) THAT YtmhgbpgilhboeaaProg.lean LOADS. Nothing in Lean hashes anything: it is a label: what it is worth is what the hold of that sum in a sandbox is worth. -/
noncomputable def Try.pinned : Pinned := { name := "ytmhgbpgilhboeaa", sum := "c3b093f8ce135860f7d0ab5d5f5f251221424c07dd04a82743fffc2dfeb7533c", checked := Try.checked }
namespace Rows
def none {H : Type} : Left H := { results := [], args := [] }

/-- 'slabvaultlaw10.NumberClamps': WHATEVER THE INPUT: true; the input reads as it did. -/
def numberClampsSpec : ChangeSpec := { name := "numberClamps", fn := fun _ => fun
  | [d1, d2, d3] => { results := [.lit (.bool true)], args := [d1, d2, d3] }
  | _ => none }
def numberClampsRow : OpenClaim := { program := "ytmhgbpgilhboeaa", sum := "c3b093f8ce135860f7d0ab5d5f5f251221424c07dd04a82743fffc2dfeb7533c", func := "slabvault/slabvaultlaw10.NumberClamps", spec := "numberClamps", inPlace := ["math.Float32bits", "math.Float64bits", "math.Float32frombits"], apart := false }
def NumberClampsSaid : Prop := numberClampsRow.holds Try.pinned (OpenSpec.ofChange numberClampsSpec)

/-- ITS FALSE NEIGHBOUR: 'it returns false'. Refute it at one input. -/
def numberClampsWrong : ChangeSpec := { name := "numberClamps", fn := fun _ => fun
  | [d1, d2, d3] => { results := [.lit (.bool false)], args := [d1, d2, d3] }
  | _ => none }
def NumberClampsWrongFalsely : Prop := numberClampsRow.holds Try.pinned (OpenSpec.ofChange numberClampsWrong)

/-- 'slabvaultlaw10.NumberWidens': WHATEVER THE INPUT: true; the input reads as it did. -/
def numberWidensSpec : ChangeSpec := { name := "numberWidens", fn := fun _ => fun
  | [d] => { results := [.lit (.bool true)], args := [d] }
  | _ => none }
def numberWidensRow : OpenClaim := { program := "ytmhgbpgilhboeaa", sum := "c3b093f8ce135860f7d0ab5d5f5f251221424c07dd04a82743fffc2dfeb7533c", func := "slabvault/slabvaultlaw10.NumberWidens", spec := "numberWidens", inPlace := ["math.Float32frombits", "math.Float64bits", "math.Float32bits"], apart := false }
def NumberWidensSaid : Prop := numberWidensRow.holds Try.pinned (OpenSpec.ofChange numberWidensSpec)

/-- ITS FALSE NEIGHBOUR: 'it returns false'. Refute it at one input. -/
def numberWidensWrong : ChangeSpec := { name := "numberWidens", fn := fun _ => fun
  | [d] => { results := [.lit (.bool false)], args := [d] }
  | _ => none }
def NumberWidensWrongFalsely : Prop := numberWidensRow.holds Try.pinned (OpenSpec.ofChange numberWidensWrong)

/-- 'slabvaultlaw10.NumberOrder': WHATEVER THE INPUT: true; the input reads as it did. -/
def numberOrderSpec : ChangeSpec := { name := "numberOrder", fn := fun _ => fun
  | [d1, d2, d3] => { results := [.lit (.bool true)], args := [d1, d2, d3] }
  | _ => none }
def numberOrderRow : OpenClaim := { program := "ytmhgbpgilhboeaa", sum := "c3b093f8ce135860f7d0ab5d5f5f251221424c07dd04a82743fffc2dfeb7533c", func := "slabvault/slabvaultlaw10.NumberOrder", spec := "numberOrder", inPlace := ["math.Float32bits", "math.Float64bits", "math.Float32frombits"], apart := false }
def NumberOrderSaid : Prop := numberOrderRow.holds Try.pinned (OpenSpec.ofChange numberOrderSpec)

/-- ITS FALSE NEIGHBOUR: 'it returns false'. Refute it at one input. -/
def numberOrderWrong : ChangeSpec := { name := "numberOrder", fn := fun _ => fun
  | [d1, d2, d3] => { results := [.lit (.bool false)], args := [d1, d2, d3] }
  | _ => none }
def NumberOrderWrongFalsely : Prop := numberOrderRow.holds Try.pinned (OpenSpec.ofChange numberOrderWrong)

/-- 'slabvaultlaw10.NumberNarrows': WHATEVER THE INPUT: true; the input reads as it did. -/
def numberNarrowsSpec : ChangeSpec := { name := "numberNarrows", fn := fun _ => fun
  | [d] => { results := [.lit (.bool true)], args := [d] }
  | _ => none }
def numberNarrowsRow : OpenClaim := { program := "ytmhgbpgilhboeaa", sum := "c3b093f8ce135860f7d0ab5d5f5f251221424c07dd04a82743fffc2dfeb7533c", func := "slabvault/slabvaultlaw10.NumberNarrows", spec := "numberNarrows", inPlace := ["math.Float64frombits", "math.Float32bits", "math.Float64bits", "math.Float32frombits"], apart := false }
def NumberNarrowsSaid : Prop := numberNarrowsRow.holds Try.pinned (OpenSpec.ofChange numberNarrowsSpec)

/-- ITS FALSE NEIGHBOUR: 'it returns false'. Refute it at one input. -/
def numberNarrowsWrong : ChangeSpec := { name := "numberNarrows", fn := fun _ => fun
  | [d] => { results := [.lit (.bool false)], args := [d] }
  | _ => none }
def NumberNarrowsWrongFalsely : Prop := numberNarrowsRow.holds Try.pinned (OpenSpec.ofChange numberNarrowsWrong)

/-- 'slabvaultlaw10.NumberFloats': WHATEVER THE INPUT: true; the input reads as it did. -/
def numberFloatsSpec : ChangeSpec := { name := "numberFloats", fn := fun _ => fun
  | [d1, d2, d3] => { results := [.lit (.bool true)], args := [d1, d2, d3] }
  | _ => none }
def numberFloatsRow : OpenClaim := { program := "ytmhgbpgilhboeaa", sum := "c3b093f8ce135860f7d0ab5d5f5f251221424c07dd04a82743fffc2dfeb7533c", func := "slabvault/slabvaultlaw10.NumberFloats", spec := "numberFloats", inPlace := ["math.Float32bits", "math.Float64bits", "math.Float32frombits"], apart := false }
def NumberFloatsSaid : Prop := numberFloatsRow.holds Try.pinned (OpenSpec.ofChange numberFloatsSpec)

/-- ITS FALSE NEIGHBOUR: 'it returns false'. Refute it at one input. -/
def numberFloatsWrong : ChangeSpec := { name := "numberFloats", fn := fun _ => fun
  | [d1, d2, d3] => { results := [.lit (.bool false)], args := [d1, d2, d3] }
  | _ => none }
def NumberFloatsWrongFalsely : Prop := numberFloatsRow.holds Try.pinned (OpenSpec.ofChange numberFloatsWrong)

/-- 'slabvaultlaw10.NumberNans': WHATEVER THE INPUT: true; the input reads as it did. -/
def numberNansSpec : ChangeSpec := { name := "numberNans", fn := fun _ => fun
  | [d1, d2] => { results := [.lit (.bool true)], args := [d1, d2] }
  | _ => none }
def numberNansRow : OpenClaim := { program := "ytmhgbpgilhboeaa", sum := "c3b093f8ce135860f7d0ab5d5f5f251221424c07dd04a82743fffc2dfeb7533c", func := "slabvault/slabvaultlaw10.NumberNans", spec := "numberNans", inPlace := ["math.Float32frombits", "math.Float64bits", "math.Float64frombits", "math.Float32bits"], apart := false }
def NumberNansSaid : Prop := numberNansRow.holds Try.pinned (OpenSpec.ofChange numberNansSpec)

/-- ITS FALSE NEIGHBOUR: 'it returns false'. Refute it at one input. -/
def numberNansWrong : ChangeSpec := { name := "numberNans", fn := fun _ => fun
  | [d1, d2] => { results := [.lit (.bool false)], args := [d1, d2] }
  | _ => none }
def NumberNansWrongFalsely : Prop := numberNansRow.holds Try.pinned (OpenSpec.ofChange numberNansWrong)

/-- 'slabvaultlaw10.NumberLanguage': WHATEVER THE INPUT: true; the input reads as it did. -/
def numberLanguageSpec : ChangeSpec := { name := "numberLanguage", fn := fun _ => fun
  | [d1, d2, d3] => { results := [.lit (.bool true)], args := [d1, d2, d3] }
  | _ => none }
def numberLanguageRow : OpenClaim := { program := "ytmhgbpgilhboeaa", sum := "c3b093f8ce135860f7d0ab5d5f5f251221424c07dd04a82743fffc2dfeb7533c", func := "slabvault/slabvaultlaw10.NumberLanguage", spec := "numberLanguage", inPlace := ["math.Float64frombits", "math.Float32frombits", "math.Float32bits", "math.Float64bits"], apart := false }
def NumberLanguageSaid : Prop := numberLanguageRow.holds Try.pinned (OpenSpec.ofChange numberLanguageSpec)

/-- ITS FALSE NEIGHBOUR: 'it returns false'. Refute it at one input. -/
def numberLanguageWrong : ChangeSpec := { name := "numberLanguage", fn := fun _ => fun
  | [d1, d2, d3] => { results := [.lit (.bool false)], args := [d1, d2, d3] }
  | _ => none }
def NumberLanguageWrongFalsely : Prop := numberLanguageRow.holds Try.pinned (OpenSpec.ofChange numberLanguageWrong)

/-- 'slabvaultlaw10.NumberTruncs': WHATEVER THE INPUT: true; the input reads as it did. -/
def numberTruncsSpec : ChangeSpec := { name := "numberTruncs", fn := fun _ => fun
  | [d1, d2, d3] => { results := [.lit (.bool true)], args := [d1, d2, d3] }
  | _ => none }
def numberTruncsRow : OpenClaim := { program := "ytmhgbpgilhboeaa", sum := "c3b093f8ce135860f7d0ab5d5f5f251221424c07dd04a82743fffc2dfeb7533c", func := "slabvault/slabvaultlaw10.NumberTruncs", spec := "numberTruncs", inPlace := ["math.Float64frombits", "math.Float32frombits", "math.archTrunc", "math.Float64bits", "math.Float32bits"], apart := false }
def NumberTruncsSaid : Prop := numberTruncsRow.holds Try.pinned (OpenSpec.ofChange numberTruncsSpec)

/-- ITS FALSE NEIGHBOUR: 'it returns false'. Refute it at one input. -/
def numberTruncsWrong : ChangeSpec := { name := "numberTruncs", fn := fun _ => fun
  | [d1, d2, d3] => { results := [.lit (.bool false)], args := [d1, d2, d3] }
  | _ => none }
def NumberTruncsWrongFalsely : Prop := numberTruncsRow.holds Try.pinned (OpenSpec.ofChange numberTruncsWrong)

/-- 'slabvaultlaw10.NumberAhead': WHATEVER THE INPUT: true; the input reads as it did. -/
def numberAheadSpec : ChangeSpec := { name := "numberAhead", fn := fun _ => fun
  | [d] => { results := [.lit (.bool true)], args := [d] }
  | _ => none }
def numberAheadRow : OpenClaim := { program := "ytmhgbpgilhboeaa", sum := "c3b093f8ce135860f7d0ab5d5f5f251221424c07dd04a82743fffc2dfeb7533c", func := "slabvault/slabvaultlaw10.NumberAhead", spec := "numberAhead", inPlace := ["math.Float64frombits", "math.Float32frombits", "math.archTrunc", "math.Float64bits", "math.Float32bits"], apart := false }
def NumberAheadSaid : Prop := numberAheadRow.holds Try.pinned (OpenSpec.ofChange numberAheadSpec)

/-- ITS FALSE NEIGHBOUR: 'it returns false'. Refute it at one input. -/
def numberAheadWrong : ChangeSpec := { name := "numberAhead", fn := fun _ => fun
  | [d] => { results := [.lit (.bool false)], args := [d] }
  | _ => none }
def NumberAheadWrongFalsely : Prop := numberAheadRow.holds Try.pinned (OpenSpec.ofChange numberAheadWrong)

/-- 'slabvaultlaw10.NumberFalls': WHATEVER THE INPUT: true; the input reads as it did. -/
def numberFallsSpec : ChangeSpec := { name := "numberFalls", fn := fun _ => fun
  | [d1, d2, d3] => { results := [.lit (.bool true)], args := [d1, d2, d3] }
  | _ => none }
def numberFallsRow : OpenClaim := { program := "ytmhgbpgilhboeaa", sum := "c3b093f8ce135860f7d0ab5d5f5f251221424c07dd04a82743fffc2dfeb7533c", func := "slabvault/slabvaultlaw10.NumberFalls", spec := "numberFalls", inPlace := ["math.Float64frombits", "math.Float32bits", "math.Float64bits", "math.Float32frombits", "math.archTrunc"], apart := false }
def NumberFallsSaid : Prop := numberFallsRow.holds Try.pinned (OpenSpec.ofChange numberFallsSpec)

/-- ITS FALSE NEIGHBOUR: 'it returns false'. Refute it at one input. -/
def numberFallsWrong : ChangeSpec := { name := "numberFalls", fn := fun _ => fun
  | [d1, d2, d3] => { results := [.lit (.bool false)], args := [d1, d2, d3] }
  | _ => none }
def NumberFallsWrongFalsely : Prop := numberFallsRow.holds Try.pinned (OpenSpec.ofChange numberFallsWrong)

/-- 'slabvaultlaw10.NumberBack': WHATEVER THE INPUT: true; the input reads as it did. -/
def numberBackSpec : ChangeSpec := { name := "numberBack", fn := fun _ => fun
  | [d1, d2] => { results := [.lit (.bool true)], args := [d1, d2] }
  | _ => none }
def numberBackRow : OpenClaim := { program := "ytmhgbpgilhboeaa", sum := "c3b093f8ce135860f7d0ab5d5f5f251221424c07dd04a82743fffc2dfeb7533c", func := "slabvault/slabvaultlaw10.NumberBack", spec := "numberBack", inPlace := ["math.Float32bits", "math.Float64bits", "math.Float64frombits", "math.Float32frombits", "math.archTrunc"], apart := false }
def NumberBackSaid : Prop := numberBackRow.holds Try.pinned (OpenSpec.ofChange numberBackSpec)

/-- ITS FALSE NEIGHBOUR: 'it returns false'. Refute it at one input. -/
def numberBackWrong : ChangeSpec := { name := "numberBack", fn := fun _ => fun
  | [d1, d2] => { results := [.lit (.bool false)], args := [d1, d2] }
  | _ => none }
def NumberBackWrongFalsely : Prop := numberBackRow.holds Try.pinned (OpenSpec.ofChange numberBackWrong)

/- THE SECOND FORM. 'bulk': how many values and letters a reading holds, each counted each time it is reached (what is shared counts as often as it is met; a slice's spare places count too). A statement '..UptoSaid' is the law's where the arguments, and the package variables that the reading takes, are together of bulk at most 1048576: NARROWER than '..Said'. Prove '..Said' where nothing that the law and all that it calls make is longer than what came in: it says more and counts as full. Else prove '..UptoSaid'. A law counts once. -/
mutual
def uptoBulk {H : Type} : DataW H → Nat
  | .lit (.string bytes) => bytes.length + 1
  | .lit _ => 1
  | .nil => 1
  | .ptr d => uptoBulk d + 1
  | .slice elems spare => uptoBulkAll elems + uptoBulkAll spare + 1
  | .agg parts => uptoBulkAll parts + 1
  | .iface _ d => uptoBulk d + 1
  | .map entries => uptoBulkEntries entries + 1
  | .held _ => 1
def uptoBulkAll {H : Type} : List (DataW H) → Nat
  | [] => 0
  | d :: r => uptoBulk d + uptoBulkAll r
def uptoBulkEntries {H : Type} : List (Lit × DataW H) → Nat
  | [] => 0
  | x :: r => uptoBulkEntry x + uptoBulkEntries r
def uptoBulkEntry {H : Type} : Lit × DataW H → Nat
  | (.string bytes, d) => bytes.length + uptoBulk d + 1
  | (_, d) => uptoBulk d + 1
 end
def uptoSmall : (H : Type) → List (DataW H) → Bool := fun _ ds => decide (uptoBulkAll ds ≤ 1048576)
def OpenSpec.upto (s : _root_.Go.ChangeSpec) : _root_.Go.OpenSpec := { _root_.Go.OpenSpec.ofChange s with cond := some uptoSmall }

/-- 'slabvaultlaw10.NumberClamps', WHERE WHAT IT READS IS OF BULK AT MOST 1048576: true; the input reads as it did. -/
def numberClampsUptoRow : OpenClaim := { program := "ytmhgbpgilhboeaa", sum := "c3b093f8ce135860f7d0ab5d5f5f251221424c07dd04a82743fffc2dfeb7533c", func := "slabvault/slabvaultlaw10.NumberClamps", spec := "numberClamps", inPlace := ["math.Float32bits", "math.Float64bits", "math.Float32frombits"], apart := false, narrowed := true }
def NumberClampsUptoSaid : Prop := numberClampsUptoRow.holds Try.pinned (OpenSpec.upto numberClampsSpec)

/-- 'slabvaultlaw10.NumberWidens', WHERE WHAT IT READS IS OF BULK AT MOST 1048576: true; the input reads as it did. -/
def numberWidensUptoRow : OpenClaim := { program := "ytmhgbpgilhboeaa", sum := "c3b093f8ce135860f7d0ab5d5f5f251221424c07dd04a82743fffc2dfeb7533c", func := "slabvault/slabvaultlaw10.NumberWidens", spec := "numberWidens", inPlace := ["math.Float32frombits", "math.Float64bits", "math.Float32bits"], apart := false, narrowed := true }
def NumberWidensUptoSaid : Prop := numberWidensUptoRow.holds Try.pinned (OpenSpec.upto numberWidensSpec)

/-- 'slabvaultlaw10.NumberOrder', WHERE WHAT IT READS IS OF BULK AT MOST 1048576: true; the input reads as it did. -/
def numberOrderUptoRow : OpenClaim := { program := "ytmhgbpgilhboeaa", sum := "c3b093f8ce135860f7d0ab5d5f5f251221424c07dd04a82743fffc2dfeb7533c", func := "slabvault/slabvaultlaw10.NumberOrder", spec := "numberOrder", inPlace := ["math.Float32bits", "math.Float64bits", "math.Float32frombits"], apart := false, narrowed := true }
def NumberOrderUptoSaid : Prop := numberOrderUptoRow.holds Try.pinned (OpenSpec.upto numberOrderSpec)

/-- 'slabvaultlaw10.NumberNarrows', WHERE WHAT IT READS IS OF BULK AT MOST 1048576: true; the input reads as it did. -/
def numberNarrowsUptoRow : OpenClaim := { program := "ytmhgbpgilhboeaa", sum := "c3b093f8ce135860f7d0ab5d5f5f251221424c07dd04a82743fffc2dfeb7533c", func := "slabvault/slabvaultlaw10.NumberNarrows", spec := "numberNarrows", inPlace := ["math.Float64frombits", "math.Float32bits", "math.Float64bits", "math.Float32frombits"], apart := false, narrowed := true }
def NumberNarrowsUptoSaid : Prop := numberNarrowsUptoRow.holds Try.pinned (OpenSpec.upto numberNarrowsSpec)

/-- 'slabvaultlaw10.NumberFloats', WHERE WHAT IT READS IS OF BULK AT MOST 1048576: true; the input reads as it did. -/
def numberFloatsUptoRow : OpenClaim := { program := "ytmhgbpgilhboeaa", sum := "c3b093f8ce135860f7d0ab5d5f5f251221424c07dd04a82743fffc2dfeb7533c", func := "slabvault/slabvaultlaw10.NumberFloats", spec := "numberFloats", inPlace := ["math.Float32bits", "math.Float64bits", "math.Float32frombits"], apart := false, narrowed := true }
def NumberFloatsUptoSaid : Prop := numberFloatsUptoRow.holds Try.pinned (OpenSpec.upto numberFloatsSpec)

/-- 'slabvaultlaw10.NumberNans', WHERE WHAT IT READS IS OF BULK AT MOST 1048576: true; the input reads as it did. -/
def numberNansUptoRow : OpenClaim := { program := "ytmhgbpgilhboeaa", sum := "c3b093f8ce135860f7d0ab5d5f5f251221424c07dd04a82743fffc2dfeb7533c", func := "slabvault/slabvaultlaw10.NumberNans", spec := "numberNans", inPlace := ["math.Float32frombits", "math.Float64bits", "math.Float64frombits", "math.Float32bits"], apart := false, narrowed := true }
def NumberNansUptoSaid : Prop := numberNansUptoRow.holds Try.pinned (OpenSpec.upto numberNansSpec)

/-- 'slabvaultlaw10.NumberLanguage', WHERE WHAT IT READS IS OF BULK AT MOST 1048576: true; the input reads as it did. -/
def numberLanguageUptoRow : OpenClaim := { program := "ytmhgbpgilhboeaa", sum := "c3b093f8ce135860f7d0ab5d5f5f251221424c07dd04a82743fffc2dfeb7533c", func := "slabvault/slabvaultlaw10.NumberLanguage", spec := "numberLanguage", inPlace := ["math.Float64frombits", "math.Float32frombits", "math.Float32bits", "math.Float64bits"], apart := false, narrowed := true }
def NumberLanguageUptoSaid : Prop := numberLanguageUptoRow.holds Try.pinned (OpenSpec.upto numberLanguageSpec)

/-- 'slabvaultlaw10.NumberTruncs', WHERE WHAT IT READS IS OF BULK AT MOST 1048576: true; the input reads as it did. -/
def numberTruncsUptoRow : OpenClaim := { program := "ytmhgbpgilhboeaa", sum := "c3b093f8ce135860f7d0ab5d5f5f251221424c07dd04a82743fffc2dfeb7533c", func := "slabvault/slabvaultlaw10.NumberTruncs", spec := "numberTruncs", inPlace := ["math.Float64frombits", "math.Float32frombits", "math.archTrunc", "math.Float64bits", "math.Float32bits"], apart := false, narrowed := true }
def NumberTruncsUptoSaid : Prop := numberTruncsUptoRow.holds Try.pinned (OpenSpec.upto numberTruncsSpec)

/-- 'slabvaultlaw10.NumberAhead', WHERE WHAT IT READS IS OF BULK AT MOST 1048576: true; the input reads as it did. -/
def numberAheadUptoRow : OpenClaim := { program := "ytmhgbpgilhboeaa", sum := "c3b093f8ce135860f7d0ab5d5f5f251221424c07dd04a82743fffc2dfeb7533c", func := "slabvault/slabvaultlaw10.NumberAhead", spec := "numberAhead", inPlace := ["math.Float64frombits", "math.Float32frombits", "math.archTrunc", "math.Float64bits", "math.Float32bits"], apart := false, narrowed := true }
def NumberAheadUptoSaid : Prop := numberAheadUptoRow.holds Try.pinned (OpenSpec.upto numberAheadSpec)

/-- 'slabvaultlaw10.NumberFalls', WHERE WHAT IT READS IS OF BULK AT MOST 1048576: true; the input reads as it did. -/
def numberFallsUptoRow : OpenClaim := { program := "ytmhgbpgilhboeaa", sum := "c3b093f8ce135860f7d0ab5d5f5f251221424c07dd04a82743fffc2dfeb7533c", func := "slabvault/slabvaultlaw10.NumberFalls", spec := "numberFalls", inPlace := ["math.Float64frombits", "math.Float32bits", "math.Float64bits", "math.Float32frombits", "math.archTrunc"], apart := false, narrowed := true }
def NumberFallsUptoSaid : Prop := numberFallsUptoRow.holds Try.pinned (OpenSpec.upto numberFallsSpec)

/-- 'slabvaultlaw10.NumberBack', WHERE WHAT IT READS IS OF BULK AT MOST 1048576: true; the input reads as it did. -/
def numberBackUptoRow : OpenClaim := { program := "ytmhgbpgilhboeaa", sum := "c3b093f8ce135860f7d0ab5d5f5f251221424c07dd04a82743fffc2dfeb7533c", func := "slabvault/slabvaultlaw10.NumberBack", spec := "numberBack", inPlace := ["math.Float32bits", "math.Float64bits", "math.Float64frombits", "math.Float32frombits", "math.archTrunc"], apart := false, narrowed := true }
def NumberBackUptoSaid : Prop := numberBackUptoRow.holds Try.pinned (OpenSpec.upto numberBackSpec)

end Rows
end Go.Proofs.Ytmhgbpgilhboeaa
