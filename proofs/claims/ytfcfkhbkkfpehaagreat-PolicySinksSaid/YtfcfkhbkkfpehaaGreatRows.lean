/-
  No cell of these rows narrows 'for every input' (looked for: loops, veiled, ifaces, maps, wideKeys, modest, calm, conditions, laid).
  DERIVED. THE GIVEN ROWS OF THIS SEAT. 7 by the template 'for every input the law returns true; each argument reads behind the call as it read before'; 0 by the template 'total and deterministic' (their statements: YtfcfkhbkkfpehaaGreatTotals.lean).
  GIVEN WITH THE SEED: the statements are not yours to turn. If you find one false, say at which input.
  Laid BY PROGRAM, IN A SANDBOX (cutbox-rows.mjs): the forced cells as the released guide's own fill.sh prints them over the translation 97018f3bc4d3450b… (all of the seat's roots in one cut). By AI agents, Wed Nov 11 2026. No macro, syntax, notation, axiom, sorry.
-/
import Derived.Test.YtfcfkhbkkfpehaaGreatChecked
import GoSem.Claim
import GoSem.ClaimJoined
import GoSem.ClaimMapViews
import Derived.JoinedTies
import Derived.KernelRfl
namespace Go.Proofs.YtfcfkhbkkfpehaaGreat
/- THE CELL 'sum', in the pinned program and in every row, IS THE sha256 OF THE DUMP (.gsa) THAT YtfcfkhbkkfpehaaGreatProg.lean LOADS. Nothing in Lean hashes anything: it is a label: what it is worth is what the hold of that sum in a sandbox is worth. -/
noncomputable def Tryz.pinned : Pinned := { name := "ytfcfkhbkkfpehaagreat", sum := "97018f3bc4d3450b9e176a6417bcebcd22cdf322c23e1a865e38416e0ad9921f", checked := Tryz.checked }
namespace Rows
def none {H : Type} : Left H := { results := [], args := [] }

/-- 'pomanderlaw13.PolicyJudges': WHATEVER THE INPUT: true; the input reads as it did. -/
def policyJudgesSpec : ChangeSpec := { name := "policyJudges", fn := fun _ => fun
  | [d1, d2, d3] => { results := [.lit (.bool true)], args := [d1, d2, d3] }
  | _ => none }
def policyJudgesRow : OpenClaim := { program := "ytfcfkhbkkfpehaagreat", sum := "97018f3bc4d3450b9e176a6417bcebcd22cdf322c23e1a865e38416e0ad9921f", func := "pomander/pomanderlaw13.PolicyJudges", spec := "policyJudges", inPlace := ["maps.clone"], unfollowed := true, recurses := true, plainKeys := false, apart := false }
def PolicyJudgesSaid : Prop := policyJudgesRow.holds Tryz.pinned (OpenSpec.ofChange policyJudgesSpec)

/-- ITS FALSE NEIGHBOUR: 'it returns false'. Refute it at one input. -/
def policyJudgesWrong : ChangeSpec := { name := "policyJudges", fn := fun _ => fun
  | [d1, d2, d3] => { results := [.lit (.bool false)], args := [d1, d2, d3] }
  | _ => none }
def PolicyJudgesWrongFalsely : Prop := policyJudgesRow.holds Tryz.pinned (OpenSpec.ofChange policyJudgesWrong)

/-- 'pomanderlaw13.PolicySinks': WHATEVER THE INPUT: true; the input reads as it did. -/
def policySinksSpec : ChangeSpec := { name := "policySinks", fn := fun _ => fun
  | [d1, d2, d3] => { results := [.lit (.bool true)], args := [d1, d2, d3] }
  | _ => none }
def policySinksRow : OpenClaim := { program := "ytfcfkhbkkfpehaagreat", sum := "97018f3bc4d3450b9e176a6417bcebcd22cdf322c23e1a865e38416e0ad9921f", func := "pomander/pomanderlaw13.PolicySinks", spec := "policySinks", inPlace := ["maps.clone"], unfollowed := true, recurses := true, plainKeys := false, apart := false }
def PolicySinksSaid : Prop := policySinksRow.holds Tryz.pinned (OpenSpec.ofChange policySinksSpec)

/-- ITS FALSE NEIGHBOUR: 'it returns false'. Refute it at one input. -/
def policySinksWrong : ChangeSpec := { name := "policySinks", fn := fun _ => fun
  | [d1, d2, d3] => { results := [.lit (.bool false)], args := [d1, d2, d3] }
  | _ => none }
def PolicySinksWrongFalsely : Prop := policySinksRow.holds Tryz.pinned (OpenSpec.ofChange policySinksWrong)

/-- 'pomanderlaw12.FlowPlay': WHATEVER THE INPUT: true; the input reads as it did. -/
def flowPlaySpec : ChangeSpec := { name := "flowPlay", fn := fun _ => fun
  | [d1, d2, d3] => { results := [.lit (.bool true)], args := [d1, d2, d3] }
  | _ => none }
def flowPlayRow : OpenClaim := { program := "ytfcfkhbkkfpehaagreat", sum := "97018f3bc4d3450b9e176a6417bcebcd22cdf322c23e1a865e38416e0ad9921f", func := "pomander/pomanderlaw12.FlowPlay", spec := "flowPlay", inPlace := ["maps.clone"], unfollowed := true, recurses := true, plainKeys := false, apart := false }
def FlowPlaySaid : Prop := flowPlayRow.holds Tryz.pinned (OpenSpec.ofChange flowPlaySpec)

/-- ITS FALSE NEIGHBOUR: 'it returns false'. Refute it at one input. -/
def flowPlayWrong : ChangeSpec := { name := "flowPlay", fn := fun _ => fun
  | [d1, d2, d3] => { results := [.lit (.bool false)], args := [d1, d2, d3] }
  | _ => none }
def FlowPlayWrongFalsely : Prop := flowPlayRow.holds Tryz.pinned (OpenSpec.ofChange flowPlayWrong)

/-- 'pomanderlaw12.FlowMarks': WHATEVER THE INPUT: true; the input reads as it did. -/
def flowMarksSpec : ChangeSpec := { name := "flowMarks", fn := fun _ => fun
  | [d1, d2] => { results := [.lit (.bool true)], args := [d1, d2] }
  | _ => none }
def flowMarksRow : OpenClaim := { program := "ytfcfkhbkkfpehaagreat", sum := "97018f3bc4d3450b9e176a6417bcebcd22cdf322c23e1a865e38416e0ad9921f", func := "pomander/pomanderlaw12.FlowMarks", spec := "flowMarks", inPlace := ["maps.clone"], unfollowed := true, recurses := true, plainKeys := false, apart := false }
def FlowMarksSaid : Prop := flowMarksRow.holds Tryz.pinned (OpenSpec.ofChange flowMarksSpec)

/-- ITS FALSE NEIGHBOUR: 'it returns false'. Refute it at one input. -/
def flowMarksWrong : ChangeSpec := { name := "flowMarks", fn := fun _ => fun
  | [d1, d2] => { results := [.lit (.bool false)], args := [d1, d2] }
  | _ => none }
def FlowMarksWrongFalsely : Prop := flowMarksRow.holds Tryz.pinned (OpenSpec.ofChange flowMarksWrong)

/-- 'pomanderlaw12.FlowFull': WHATEVER THE INPUT: true; the input reads as it did. -/
def flowFullSpec : ChangeSpec := { name := "flowFull", fn := fun _ => fun
  | [d1, d2] => { results := [.lit (.bool true)], args := [d1, d2] }
  | _ => none }
def flowFullRow : OpenClaim := { program := "ytfcfkhbkkfpehaagreat", sum := "97018f3bc4d3450b9e176a6417bcebcd22cdf322c23e1a865e38416e0ad9921f", func := "pomander/pomanderlaw12.FlowFull", spec := "flowFull", inPlace := ["maps.clone"], unfollowed := true, recurses := true, plainKeys := false, apart := false }
def FlowFullSaid : Prop := flowFullRow.holds Tryz.pinned (OpenSpec.ofChange flowFullSpec)

/-- ITS FALSE NEIGHBOUR: 'it returns false'. Refute it at one input. -/
def flowFullWrong : ChangeSpec := { name := "flowFull", fn := fun _ => fun
  | [d1, d2] => { results := [.lit (.bool false)], args := [d1, d2] }
  | _ => none }
def FlowFullWrongFalsely : Prop := flowFullRow.holds Tryz.pinned (OpenSpec.ofChange flowFullWrong)

/-- 'pomanderlaw12.FlowCopies': WHATEVER THE INPUT: true; the input reads as it did. -/
def flowCopiesSpec : ChangeSpec := { name := "flowCopies", fn := fun _ => fun
  | [d1, d2, d3] => { results := [.lit (.bool true)], args := [d1, d2, d3] }
  | _ => none }
def flowCopiesRow : OpenClaim := { program := "ytfcfkhbkkfpehaagreat", sum := "97018f3bc4d3450b9e176a6417bcebcd22cdf322c23e1a865e38416e0ad9921f", func := "pomander/pomanderlaw12.FlowCopies", spec := "flowCopies", inPlace := ["maps.clone"], unfollowed := true, recurses := true, plainKeys := false, apart := false }
def FlowCopiesSaid : Prop := flowCopiesRow.holds Tryz.pinned (OpenSpec.ofChange flowCopiesSpec)

/-- ITS FALSE NEIGHBOUR: 'it returns false'. Refute it at one input. -/
def flowCopiesWrong : ChangeSpec := { name := "flowCopies", fn := fun _ => fun
  | [d1, d2, d3] => { results := [.lit (.bool false)], args := [d1, d2, d3] }
  | _ => none }
def FlowCopiesWrongFalsely : Prop := flowCopiesRow.holds Tryz.pinned (OpenSpec.ofChange flowCopiesWrong)

/-- 'pomanderlaw12.FlowNil': WHATEVER THE INPUT: true; the input reads as it did. -/
def flowNilSpec : ChangeSpec := { name := "flowNil", fn := fun _ => fun
  | [d] => { results := [.lit (.bool true)], args := [d] }
  | _ => none }
def flowNilRow : OpenClaim := { program := "ytfcfkhbkkfpehaagreat", sum := "97018f3bc4d3450b9e176a6417bcebcd22cdf322c23e1a865e38416e0ad9921f", func := "pomander/pomanderlaw12.FlowNil", spec := "flowNil", inPlace := ["maps.clone"], unfollowed := true, recurses := true, plainKeys := false, apart := false }
def FlowNilSaid : Prop := flowNilRow.holds Tryz.pinned (OpenSpec.ofChange flowNilSpec)

/-- ITS FALSE NEIGHBOUR: 'it returns false'. Refute it at one input. -/
def flowNilWrong : ChangeSpec := { name := "flowNil", fn := fun _ => fun
  | [d] => { results := [.lit (.bool false)], args := [d] }
  | _ => none }
def FlowNilWrongFalsely : Prop := flowNilRow.holds Tryz.pinned (OpenSpec.ofChange flowNilWrong)

/- THE SECOND FORM. 'bulk': how many values and letters a reading holds, each counted each time it is reached (what is shared counts as often as it is met; a slice's spare places count too). A statement '..UptoSaid' is the law's where the arguments, and the package variables that the reading takes, are together of bulk at most 1048576: NARROWER than '..Said'. Prove '..Said' where nothing that the law and all that it calls make is longer than what came in: it says more and counts as full. Else prove '..UptoSaid'. A law counts once. -/
mutual
def uptoBulk {H : Type} : DataW H → Nat
  | .lit (.string bytes) => bytes.length + 1
  | .lit _ => 1
  | .nil => 1
  | .ptr d => uptoBulk d + 1
  | .slice elems spare => uptoBulkAll elems + uptoBulkAll spare + 1
  | .agg parts => uptoBulkAll parts + 1
  | .iface _ d => uptoBulk d + 1
  | .map entries => uptoBulkEntries entries + 1
  | .held _ => 1
def uptoBulkAll {H : Type} : List (DataW H) → Nat
  | [] => 0
  | d :: r => uptoBulk d + uptoBulkAll r
def uptoBulkEntries {H : Type} : List (Lit × DataW H) → Nat
  | [] => 0
  | x :: r => uptoBulkEntry x + uptoBulkEntries r
def uptoBulkEntry {H : Type} : Lit × DataW H → Nat
  | (.string bytes, d) => bytes.length + uptoBulk d + 1
  | (_, d) => uptoBulk d + 1
 end
def uptoSmall : (H : Type) → List (DataW H) → Bool := fun _ ds => decide (uptoBulkAll ds ≤ 1048576)
def OpenSpec.upto (s : _root_.Go.ChangeSpec) : _root_.Go.OpenSpec := { _root_.Go.OpenSpec.ofChange s with cond := some uptoSmall }

/-- 'pomanderlaw13.PolicyJudges', WHERE WHAT IT READS IS OF BULK AT MOST 1048576: true; the input reads as it did. -/
def policyJudgesUptoRow : OpenClaim := { program := "ytfcfkhbkkfpehaagreat", sum := "97018f3bc4d3450b9e176a6417bcebcd22cdf322c23e1a865e38416e0ad9921f", func := "pomander/pomanderlaw13.PolicyJudges", spec := "policyJudges", inPlace := ["maps.clone"], unfollowed := true, recurses := true, plainKeys := false, apart := false, narrowed := true }
def PolicyJudgesUptoSaid : Prop := policyJudgesUptoRow.holds Tryz.pinned (OpenSpec.upto policyJudgesSpec)

/-- 'pomanderlaw13.PolicySinks', WHERE WHAT IT READS IS OF BULK AT MOST 1048576: true; the input reads as it did. -/
def policySinksUptoRow : OpenClaim := { program := "ytfcfkhbkkfpehaagreat", sum := "97018f3bc4d3450b9e176a6417bcebcd22cdf322c23e1a865e38416e0ad9921f", func := "pomander/pomanderlaw13.PolicySinks", spec := "policySinks", inPlace := ["maps.clone"], unfollowed := true, recurses := true, plainKeys := false, apart := false, narrowed := true }
def PolicySinksUptoSaid : Prop := policySinksUptoRow.holds Tryz.pinned (OpenSpec.upto policySinksSpec)

/-- 'pomanderlaw12.FlowPlay', WHERE WHAT IT READS IS OF BULK AT MOST 1048576: true; the input reads as it did. -/
def flowPlayUptoRow : OpenClaim := { program := "ytfcfkhbkkfpehaagreat", sum := "97018f3bc4d3450b9e176a6417bcebcd22cdf322c23e1a865e38416e0ad9921f", func := "pomander/pomanderlaw12.FlowPlay", spec := "flowPlay", inPlace := ["maps.clone"], unfollowed := true, recurses := true, plainKeys := false, apart := false, narrowed := true }
def FlowPlayUptoSaid : Prop := flowPlayUptoRow.holds Tryz.pinned (OpenSpec.upto flowPlaySpec)

/-- 'pomanderlaw12.FlowMarks', WHERE WHAT IT READS IS OF BULK AT MOST 1048576: true; the input reads as it did. -/
def flowMarksUptoRow : OpenClaim := { program := "ytfcfkhbkkfpehaagreat", sum := "97018f3bc4d3450b9e176a6417bcebcd22cdf322c23e1a865e38416e0ad9921f", func := "pomander/pomanderlaw12.FlowMarks", spec := "flowMarks", inPlace := ["maps.clone"], unfollowed := true, recurses := true, plainKeys := false, apart := false, narrowed := true }
def FlowMarksUptoSaid : Prop := flowMarksUptoRow.holds Tryz.pinned (OpenSpec.upto flowMarksSpec)

/-- 'pomanderlaw12.FlowFull', WHERE WHAT IT READS IS OF BULK AT MOST 1048576: true; the input reads as it did. -/
def flowFullUptoRow : OpenClaim := { program := "ytfcfkhbkkfpehaagreat", sum := "97018f3bc4d3450b9e176a6417bcebcd22cdf322c23e1a865e38416e0ad9921f", func := "pomander/pomanderlaw12.FlowFull", spec := "flowFull", inPlace := ["maps.clone"], unfollowed := true, recurses := true, plainKeys := false, apart := false, narrowed := true }
def FlowFullUptoSaid : Prop := flowFullUptoRow.holds Tryz.pinned (OpenSpec.upto flowFullSpec)

/-- 'pomanderlaw12.FlowCopies', WHERE WHAT IT READS IS OF BULK AT MOST 1048576: true; the input reads as it did. -/
def flowCopiesUptoRow : OpenClaim := { program := "ytfcfkhbkkfpehaagreat", sum := "97018f3bc4d3450b9e176a6417bcebcd22cdf322c23e1a865e38416e0ad9921f", func := "pomander/pomanderlaw12.FlowCopies", spec := "flowCopies", inPlace := ["maps.clone"], unfollowed := true, recurses := true, plainKeys := false, apart := false, narrowed := true }
def FlowCopiesUptoSaid : Prop := flowCopiesUptoRow.holds Tryz.pinned (OpenSpec.upto flowCopiesSpec)

/-- 'pomanderlaw12.FlowNil', WHERE WHAT IT READS IS OF BULK AT MOST 1048576: true; the input reads as it did. -/
def flowNilUptoRow : OpenClaim := { program := "ytfcfkhbkkfpehaagreat", sum := "97018f3bc4d3450b9e176a6417bcebcd22cdf322c23e1a865e38416e0ad9921f", func := "pomander/pomanderlaw12.FlowNil", spec := "flowNil", inPlace := ["maps.clone"], unfollowed := true, recurses := true, plainKeys := false, apart := false, narrowed := true }
def FlowNilUptoSaid : Prop := flowNilUptoRow.holds Tryz.pinned (OpenSpec.upto flowNilSpec)

end Rows
end Go.Proofs.YtfcfkhbkkfpehaaGreat
