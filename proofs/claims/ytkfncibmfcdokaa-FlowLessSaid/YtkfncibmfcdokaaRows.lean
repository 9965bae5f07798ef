/-
  No cell of these rows narrows 'for every input' (looked for: loops, veiled, ifaces, maps, wideKeys, modest, calm, conditions, laid).
  DERIVED. THE GIVEN ROWS OF THIS SEAT. 14 by the template 'for every input the law returns true; each argument reads behind the call as it read before'; 0 by the template 'total and deterministic' (their statements: YtkfncibmfcdokaaTotals.lean).
  GIVEN WITH THE SEED: the statements are not yours to turn. If you find one false, say at which input.
  Laid BY PROGRAM, IN A SANDBOX (cutbox-rows.mjs): the forced cells as the released guide's own fill.sh prints them over the translation 61503c65893c7bcf… (all of the seat's roots in one cut). By AI agents, Wed Nov 11 2026. No macro, syntax, notation, axiom, sorry.
-/
import Derived.Test.YtkfncibmfcdokaaChecked
import GoSem.Claim
import GoSem.ClaimJoined
import GoSem.ClaimMapViews
import Derived.JoinedTies
import Derived.KernelRfl
namespace Go.Proofs.Ytkfncibmfcdokaa
/- THE CELL 'sum', in the pinned program and in every row, IS THE sha256 OF THE DUMP (.gsa) THAT YtkfncibmfcdokaaProg.lean LOADS. Nothing in Lean hashes anything: it is a label: what it is worth is what the hold of that sum in a sandbox is worth. -/
noncomputable def Try.pinned : Pinned := { name := "ytkfncibmfcdokaa", sum := "61503c65893c7bcfb603a8f62b764cf68596e4a03e7a0188d6dca430cc83cba0", checked := Try.checked }
namespace Rows
def none {H : Type} : Left H := { results := [], args := [] }

/-- 'pomanderlaw13.PolicyMore': WHATEVER THE INPUT: true; the input reads as it did. -/
def policyMoreSpec : ChangeSpec := { name := "policyMore", fn := fun _ => fun
  | [d1, d2, d3] => { results := [.lit (.bool true)], args := [d1, d2, d3] }
  | _ => none }
def policyMoreRow : OpenClaim := { program := "ytkfncibmfcdokaa", sum := "61503c65893c7bcfb603a8f62b764cf68596e4a03e7a0188d6dca430cc83cba0", func := "pomander/pomanderlaw13.PolicyMore", spec := "policyMore", unfollowed := true, recurses := true, plainKeys := false, apart := false }
def PolicyMoreSaid : Prop := policyMoreRow.holds Try.pinned (OpenSpec.ofChange policyMoreSpec)

/-- ITS FALSE NEIGHBOUR: 'it returns false'. Refute it at one input. -/
def policyMoreWrong : ChangeSpec := { name := "policyMore", fn := fun _ => fun
  | [d1, d2, d3] => { results := [.lit (.bool false)], args := [d1, d2, d3] }
  | _ => none }
def PolicyMoreWrongFalsely : Prop := policyMoreRow.holds Try.pinned (OpenSpec.ofChange policyMoreWrong)

/-- 'pomanderlaw12.FlowGets': WHATEVER THE INPUT: true; the input reads as it did. -/
def flowGetsSpec : ChangeSpec := { name := "flowGets", fn := fun _ => fun
  | [d1, d2] => { results := [.lit (.bool true)], args := [d1, d2] }
  | _ => none }
def flowGetsRow : OpenClaim := { program := "ytkfncibmfcdokaa", sum := "61503c65893c7bcfb603a8f62b764cf68596e4a03e7a0188d6dca430cc83cba0", func := "pomander/pomanderlaw12.FlowGets", spec := "flowGets", unfollowed := true, recurses := true, plainKeys := false, apart := false }
def FlowGetsSaid : Prop := flowGetsRow.holds Try.pinned (OpenSpec.ofChange flowGetsSpec)

/-- ITS FALSE NEIGHBOUR: 'it returns false'. Refute it at one input. -/
def flowGetsWrong : ChangeSpec := { name := "flowGets", fn := fun _ => fun
  | [d1, d2] => { results := [.lit (.bool false)], args := [d1, d2] }
  | _ => none }
def FlowGetsWrongFalsely : Prop := flowGetsRow.holds Try.pinned (OpenSpec.ofChange flowGetsWrong)

/-- 'pomanderlaw13.PolicyPlay': WHATEVER THE INPUT: true; the input reads as it did. -/
def policyPlaySpec : ChangeSpec := { name := "policyPlay", fn := fun _ => fun
  | [d1, d2] => { results := [.lit (.bool true)], args := [d1, d2] }
  | _ => none }
def policyPlayRow : OpenClaim := { program := "ytkfncibmfcdokaa", sum := "61503c65893c7bcfb603a8f62b764cf68596e4a03e7a0188d6dca430cc83cba0", func := "pomander/pomanderlaw13.PolicyPlay", spec := "policyPlay", unfollowed := true, recurses := true, plainKeys := false, apart := false }
def PolicyPlaySaid : Prop := policyPlayRow.holds Try.pinned (OpenSpec.ofChange policyPlaySpec)

/-- ITS FALSE NEIGHBOUR: 'it returns false'. Refute it at one input. -/
def policyPlayWrong : ChangeSpec := { name := "policyPlay", fn := fun _ => fun
  | [d1, d2] => { results := [.lit (.bool false)], args := [d1, d2] }
  | _ => none }
def PolicyPlayWrongFalsely : Prop := policyPlayRow.holds Try.pinned (OpenSpec.ofChange policyPlayWrong)

/-- 'pomanderlaw12.FlowChain': WHATEVER THE INPUT: true; the input reads as it did. -/
def flowChainSpec : ChangeSpec := { name := "flowChain", fn := fun _ => fun
  | [d1, d2] => { results := [.lit (.bool true)], args := [d1, d2] }
  | _ => none }
def flowChainRow : OpenClaim := { program := "ytkfncibmfcdokaa", sum := "61503c65893c7bcfb603a8f62b764cf68596e4a03e7a0188d6dca430cc83cba0", func := "pomander/pomanderlaw12.FlowChain", spec := "flowChain", inPlace := ["maps.clone"], unfollowed := true, recurses := true, plainKeys := false, apart := false }
def FlowChainSaid : Prop := flowChainRow.holds Try.pinned (OpenSpec.ofChange flowChainSpec)

/-- ITS FALSE NEIGHBOUR: 'it returns false'. Refute it at one input. -/
def flowChainWrong : ChangeSpec := { name := "flowChain", fn := fun _ => fun
  | [d1, d2] => { results := [.lit (.bool false)], args := [d1, d2] }
  | _ => none }
def FlowChainWrongFalsely : Prop := flowChainRow.holds Try.pinned (OpenSpec.ofChange flowChainWrong)

/-- 'pomanderlaw13.PolicyNil': WHATEVER THE INPUT: true; the input reads as it did. -/
def policyNilSpec : ChangeSpec := { name := "policyNil", fn := fun _ => fun
  | [d1, d2] => { results := [.lit (.bool true)], args := [d1, d2] }
  | _ => none }
def policyNilRow : OpenClaim := { program := "ytkfncibmfcdokaa", sum := "61503c65893c7bcfb603a8f62b764cf68596e4a03e7a0188d6dca430cc83cba0", func := "pomander/pomanderlaw13.PolicyNil", spec := "policyNil", unfollowed := true, recurses := true, plainKeys := false, apart := false }
def PolicyNilSaid : Prop := policyNilRow.holds Try.pinned (OpenSpec.ofChange policyNilSpec)

/-- ITS FALSE NEIGHBOUR: 'it returns false'. Refute it at one input. -/
def policyNilWrong : ChangeSpec := { name := "policyNil", fn := fun _ => fun
  | [d1, d2] => { results := [.lit (.bool false)], args := [d1, d2] }
  | _ => none }
def PolicyNilWrongFalsely : Prop := policyNilRow.holds Try.pinned (OpenSpec.ofChange policyNilWrong)

/-- 'pomanderlaw03.ShadowSets': WHATEVER THE INPUT: true; the input reads as it did. -/
def shadowSetsSpec : ChangeSpec := { name := "shadowSets", fn := fun _ => fun
  | [d1, d2, d3] => { results := [.lit (.bool true)], args := [d1, d2, d3] }
  | _ => none }
def shadowSetsRow : OpenClaim := { program := "ytkfncibmfcdokaa", sum := "61503c65893c7bcfb603a8f62b764cf68596e4a03e7a0188d6dca430cc83cba0", func := "pomander/pomanderlaw03.ShadowSets", spec := "shadowSets", unfollowed := true, recurses := true, plainKeys := false, apart := false }
def ShadowSetsSaid : Prop := shadowSetsRow.holds Try.pinned (OpenSpec.ofChange shadowSetsSpec)

/-- ITS FALSE NEIGHBOUR: 'it returns false'. Refute it at one input. -/
def shadowSetsWrong : ChangeSpec := { name := "shadowSets", fn := fun _ => fun
  | [d1, d2, d3] => { results := [.lit (.bool false)], args := [d1, d2, d3] }
  | _ => none }
def ShadowSetsWrongFalsely : Prop := shadowSetsRow.holds Try.pinned (OpenSpec.ofChange shadowSetsWrong)

/-- 'pomanderlaw03.ShadowPlays': WHATEVER THE INPUT: true; the input reads as it did. -/
def shadowPlaysSpec : ChangeSpec := { name := "shadowPlays", fn := fun _ => fun
  | [d1, d2] => { results := [.lit (.bool true)], args := [d1, d2] }
  | _ => none }
def shadowPlaysRow : OpenClaim := { program := "ytkfncibmfcdokaa", sum := "61503c65893c7bcfb603a8f62b764cf68596e4a03e7a0188d6dca430cc83cba0", func := "pomander/pomanderlaw03.ShadowPlays", spec := "shadowPlays", unfollowed := true, recurses := true, plainKeys := false, apart := false }
def ShadowPlaysSaid : Prop := shadowPlaysRow.holds Try.pinned (OpenSpec.ofChange shadowPlaysSpec)

/-- ITS FALSE NEIGHBOUR: 'it returns false'. Refute it at one input. -/
def shadowPlaysWrong : ChangeSpec := { name := "shadowPlays", fn := fun _ => fun
  | [d1, d2] => { results := [.lit (.bool false)], args := [d1, d2] }
  | _ => none }
def ShadowPlaysWrongFalsely : Prop := shadowPlaysRow.holds Try.pinned (OpenSpec.ofChange shadowPlaysWrong)

/-- 'pomanderlaw03.ShadowUnions': WHATEVER THE INPUT: true; the input reads as it did. -/
def shadowUnionsSpec : ChangeSpec := { name := "shadowUnions", fn := fun _ => fun
  | [d1, d2, d3, d4] => { results := [.lit (.bool true)], args := [d1, d2, d3, d4] }
  | _ => none }
def shadowUnionsRow : OpenClaim := { program := "ytkfncibmfcdokaa", sum := "61503c65893c7bcfb603a8f62b764cf68596e4a03e7a0188d6dca430cc83cba0", func := "pomander/pomanderlaw03.ShadowUnions", spec := "shadowUnions", unfollowed := true, recurses := true, plainKeys := false, apart := false }
def ShadowUnionsSaid : Prop := shadowUnionsRow.holds Try.pinned (OpenSpec.ofChange shadowUnionsSpec)

/-- ITS FALSE NEIGHBOUR: 'it returns false'. Refute it at one input. -/
def shadowUnionsWrong : ChangeSpec := { name := "shadowUnions", fn := fun _ => fun
  | [d1, d2, d3, d4] => { results := [.lit (.bool false)], args := [d1, d2, d3, d4] }
  | _ => none }
def ShadowUnionsWrongFalsely : Prop := shadowUnionsRow.holds Try.pinned (OpenSpec.ofChange shadowUnionsWrong)

/-- 'pomanderlaw03.ShadowFills': WHATEVER THE INPUT: true; the input reads as it did. -/
def shadowFillsSpec : ChangeSpec := { name := "shadowFills", fn := fun _ => fun
  | [d1, d2, d3, d4, d5] => { results := [.lit (.bool true)], args := [d1, d2, d3, d4, d5] }
  | _ => none }
def shadowFillsRow : OpenClaim := { program := "ytkfncibmfcdokaa", sum := "61503c65893c7bcfb603a8f62b764cf68596e4a03e7a0188d6dca430cc83cba0", func := "pomander/pomanderlaw03.ShadowFills", spec := "shadowFills", unfollowed := true, recurses := true, plainKeys := false, apart := false }
def ShadowFillsSaid : Prop := shadowFillsRow.holds Try.pinned (OpenSpec.ofChange shadowFillsSpec)

/-- ITS FALSE NEIGHBOUR: 'it returns false'. Refute it at one input. -/
def shadowFillsWrong : ChangeSpec := { name := "shadowFills", fn := fun _ => fun
  | [d1, d2, d3, d4, d5] => { results := [.lit (.bool false)], args := [d1, d2, d3, d4, d5] }
  | _ => none }
def ShadowFillsWrongFalsely : Prop := shadowFillsRow.holds Try.pinned (OpenSpec.ofChange shadowFillsWrong)

/-- 'pomanderlaw03.ShadowAlls': WHATEVER THE INPUT: true; the input reads as it did. -/
def shadowAllsSpec : ChangeSpec := { name := "shadowAlls", fn := fun _ => fun
  | [d1, d2, d3] => { results := [.lit (.bool true)], args := [d1, d2, d3] }
  | _ => none }
def shadowAllsRow : OpenClaim := { program := "ytkfncibmfcdokaa", sum := "61503c65893c7bcfb603a8f62b764cf68596e4a03e7a0188d6dca430cc83cba0", func := "pomander/pomanderlaw03.ShadowAlls", spec := "shadowAlls", unfollowed := true, recurses := true, plainKeys := false, apart := false }
def ShadowAllsSaid : Prop := shadowAllsRow.holds Try.pinned (OpenSpec.ofChange shadowAllsSpec)

/-- ITS FALSE NEIGHBOUR: 'it returns false'. Refute it at one input. -/
def shadowAllsWrong : ChangeSpec := { name := "shadowAlls", fn := fun _ => fun
  | [d1, d2, d3] => { results := [.lit (.bool false)], args := [d1, d2, d3] }
  | _ => none }
def ShadowAllsWrongFalsely : Prop := shadowAllsRow.holds Try.pinned (OpenSpec.ofChange shadowAllsWrong)

/-- 'pomanderlaw03.ShadowMakes': WHATEVER THE INPUT: true; the input reads as it did. -/
def shadowMakesSpec : ChangeSpec := { name := "shadowMakes", fn := fun _ => fun
  | [d] => { results := [.lit (.bool true)], args := [d] }
  | _ => none }
def shadowMakesRow : OpenClaim := { program := "ytkfncibmfcdokaa", sum := "61503c65893c7bcfb603a8f62b764cf68596e4a03e7a0188d6dca430cc83cba0", func := "pomander/pomanderlaw03.ShadowMakes", spec := "shadowMakes", unfollowed := true, recurses := true, plainKeys := false, apart := false }
def ShadowMakesSaid : Prop := shadowMakesRow.holds Try.pinned (OpenSpec.ofChange shadowMakesSpec)

/-- ITS FALSE NEIGHBOUR: 'it returns false'. Refute it at one input. -/
def shadowMakesWrong : ChangeSpec := { name := "shadowMakes", fn := fun _ => fun
  | [d] => { results := [.lit (.bool false)], args := [d] }
  | _ => none }
def ShadowMakesWrongFalsely : Prop := shadowMakesRow.holds Try.pinned (OpenSpec.ofChange shadowMakesWrong)

/-- 'pomanderlaw03.ShadowCopies': WHATEVER THE INPUT: true; the input reads as it did. -/
def shadowCopiesSpec : ChangeSpec := { name := "shadowCopies", fn := fun _ => fun
  | [d1, d2, d3] => { results := [.lit (.bool true)], args := [d1, d2, d3] }
  | _ => none }
def shadowCopiesRow : OpenClaim := { program := "ytkfncibmfcdokaa", sum := "61503c65893c7bcfb603a8f62b764cf68596e4a03e7a0188d6dca430cc83cba0", func := "pomander/pomanderlaw03.ShadowCopies", spec := "shadowCopies", unfollowed := true, recurses := true, plainKeys := false, apart := false }
def ShadowCopiesSaid : Prop := shadowCopiesRow.holds Try.pinned (OpenSpec.ofChange shadowCopiesSpec)

/-- ITS FALSE NEIGHBOUR: 'it returns false'. Refute it at one input. -/
def shadowCopiesWrong : ChangeSpec := { name := "shadowCopies", fn := fun _ => fun
  | [d1, d2, d3] => { results := [.lit (.bool false)], args := [d1, d2, d3] }
  | _ => none }
def ShadowCopiesWrongFalsely : Prop := shadowCopiesRow.holds Try.pinned (OpenSpec.ofChange shadowCopiesWrong)

/-- 'pomanderlaw03.ShadowFew': WHATEVER THE INPUT: true; the input reads as it did. -/
def shadowFewSpec : ChangeSpec := { name := "shadowFew", fn := fun _ => fun
  | [d1, d2, d3, d4] => { results := [.lit (.bool true)], args := [d1, d2, d3, d4] }
  | _ => none }
def shadowFewRow : OpenClaim := { program := "ytkfncibmfcdokaa", sum := "61503c65893c7bcfb603a8f62b764cf68596e4a03e7a0188d6dca430cc83cba0", func := "pomander/pomanderlaw03.ShadowFew", spec := "shadowFew", unfollowed := true, recurses := true, plainKeys := false, apart := false }
def ShadowFewSaid : Prop := shadowFewRow.holds Try.pinned (OpenSpec.ofChange shadowFewSpec)

/-- ITS FALSE NEIGHBOUR: 'it returns false'. Refute it at one input. -/
def shadowFewWrong : ChangeSpec := { name := "shadowFew", fn := fun _ => fun
  | [d1, d2, d3, d4] => { results := [.lit (.bool false)], args := [d1, d2, d3, d4] }
  | _ => none }
def ShadowFewWrongFalsely : Prop := shadowFewRow.holds Try.pinned (OpenSpec.ofChange shadowFewWrong)

/-- 'pomanderlaw12.FlowLess': WHATEVER THE INPUT: true; the input reads as it did. -/
def flowLessSpec : ChangeSpec := { name := "flowLess", fn := fun _ => fun
  | [d1, d2] => { results := [.lit (.bool true)], args := [d1, d2] }
  | _ => none }
def flowLessRow : OpenClaim := { program := "ytkfncibmfcdokaa", sum := "61503c65893c7bcfb603a8f62b764cf68596e4a03e7a0188d6dca430cc83cba0", func := "pomander/pomanderlaw12.FlowLess", spec := "flowLess", inPlace := ["maps.clone"], unfollowed := true, recurses := true, plainKeys := false, apart := false }
def FlowLessSaid : Prop := flowLessRow.holds Try.pinned (OpenSpec.ofChange flowLessSpec)

/-- ITS FALSE NEIGHBOUR: 'it returns false'. Refute it at one input. -/
def flowLessWrong : ChangeSpec := { name := "flowLess", fn := fun _ => fun
  | [d1, d2] => { results := [.lit (.bool false)], args := [d1, d2] }
  | _ => none }
def FlowLessWrongFalsely : Prop := flowLessRow.holds Try.pinned (OpenSpec.ofChange flowLessWrong)

/- THE SECOND FORM. 'bulk': how many values and letters a reading holds, each counted each time it is reached (what is shared counts as often as it is met; a slice's spare places count too). A statement '..UptoSaid' is the law's where the arguments, and the package variables that the reading takes, are together of bulk at most 1048576: NARROWER than '..Said'. Prove '..Said' where nothing that the law and all that it calls make is longer than what came in: it says more and counts as full. Else prove '..UptoSaid'. A law counts once. -/
mutual
def uptoBulk {H : Type} : DataW H → Nat
  | .lit (.string bytes) => bytes.length + 1
  | .lit _ => 1
  | .nil => 1
  | .ptr d => uptoBulk d + 1
  | .slice elems spare => uptoBulkAll elems + uptoBulkAll spare + 1
  | .agg parts => uptoBulkAll parts + 1
  | .iface _ d => uptoBulk d + 1
  | .map entries => uptoBulkEntries entries + 1
  | .held _ => 1
def uptoBulkAll {H : Type} : List (DataW H) → Nat
  | [] => 0
  | d :: r => uptoBulk d + uptoBulkAll r
def uptoBulkEntries {H : Type} : List (Lit × DataW H) → Nat
  | [] => 0
  | x :: r => uptoBulkEntry x + uptoBulkEntries r
def uptoBulkEntry {H : Type} : Lit × DataW H → Nat
  | (.string bytes, d) => bytes.length + uptoBulk d + 1
  | (_, d) => uptoBulk d + 1
 end
def uptoSmall : (H : Type) → List (DataW H) → Bool := fun _ ds => decide (uptoBulkAll ds ≤ 1048576)
def OpenSpec.upto (s : _root_.Go.ChangeSpec) : _root_.Go.OpenSpec := { _root_.Go.OpenSpec.ofChange s with cond := some uptoSmall }

/-- 'pomanderlaw13.PolicyMore', WHERE WHAT IT READS IS OF BULK AT MOST 1048576: true; the input reads as it did. -/
def policyMoreUptoRow : OpenClaim := { program := "ytkfncibmfcdokaa", sum := "61503c65893c7bcfb603a8f62b764cf68596e4a03e7a0188d6dca430cc83cba0", func := "pomander/pomanderlaw13.PolicyMore", spec := "policyMore", unfollowed := true, recurses := true, plainKeys := false, apart := false, narrowed := true }
def PolicyMoreUptoSaid : Prop := policyMoreUptoRow.holds Try.pinned (OpenSpec.upto policyMoreSpec)

/-- 'pomanderlaw12.FlowGets', WHERE WHAT IT READS IS OF BULK AT MOST 1048576: true; the input reads as it did. -/
def flowGetsUptoRow : OpenClaim := { program := "ytkfncibmfcdokaa", sum := "61503c65893c7bcfb603a8f62b764cf68596e4a03e7a0188d6dca430cc83cba0", func := "pomander/pomanderlaw12.FlowGets", spec := "flowGets", unfollowed := true, recurses := true, plainKeys := false, apart := false, narrowed := true }
def FlowGetsUptoSaid : Prop := flowGetsUptoRow.holds Try.pinned (OpenSpec.upto flowGetsSpec)

/-- 'pomanderlaw13.PolicyPlay', WHERE WHAT IT READS IS OF BULK AT MOST 1048576: true; the input reads as it did. -/
def policyPlayUptoRow : OpenClaim := { program := "ytkfncibmfcdokaa", sum := "61503c65893c7bcfb603a8f62b764cf68596e4a03e7a0188d6dca430cc83cba0", func := "pomander/pomanderlaw13.PolicyPlay", spec := "policyPlay", unfollowed := true, recurses := true, plainKeys := false, apart := false, narrowed := true }
def PolicyPlayUptoSaid : Prop := policyPlayUptoRow.holds Try.pinned (OpenSpec.upto policyPlaySpec)

/-- 'pomanderlaw12.FlowChain', WHERE WHAT IT READS IS OF BULK AT MOST 1048576: true; the input reads as it did. -/
def flowChainUptoRow : OpenClaim := { program := "ytkfncibmfcdokaa", sum := "61503c65893c7bcfb603a8f62b764cf68596e4a03e7a0188d6dca430cc83cba0", func := "pomander/pomanderlaw12.FlowChain", spec := "flowChain", inPlace := ["maps.clone"], unfollowed := true, recurses := true, plainKeys := false, apart := false, narrowed := true }
def FlowChainUptoSaid : Prop := flowChainUptoRow.holds Try.pinned (OpenSpec.upto flowChainSpec)

/-- 'pomanderlaw13.PolicyNil', WHERE WHAT IT READS IS OF BULK AT MOST 1048576: true; the input reads as it did. -/
def policyNilUptoRow : OpenClaim := { program := "ytkfncibmfcdokaa", sum := "61503c65893c7bcfb603a8f62b764cf68596e4a03e7a0188d6dca430cc83cba0", func := "pomander/pomanderlaw13.PolicyNil", spec := "policyNil", unfollowed := true, recurses := true, plainKeys := false, apart := false, narrowed := true }
def PolicyNilUptoSaid : Prop := policyNilUptoRow.holds Try.pinned (OpenSpec.upto policyNilSpec)

/-- 'pomanderlaw03.ShadowSets', WHERE WHAT IT READS IS OF BULK AT MOST 1048576: true; the input reads as it did. -/
def shadowSetsUptoRow : OpenClaim := { program := "ytkfncibmfcdokaa", sum := "61503c65893c7bcfb603a8f62b764cf68596e4a03e7a0188d6dca430cc83cba0", func := "pomander/pomanderlaw03.ShadowSets", spec := "shadowSets", unfollowed := true, recurses := true, plainKeys := false, apart := false, narrowed := true }
def ShadowSetsUptoSaid : Prop := shadowSetsUptoRow.holds Try.pinned (OpenSpec.upto shadowSetsSpec)

/-- 'pomanderlaw03.ShadowPlays', WHERE WHAT IT READS IS OF BULK AT MOST 1048576: true; the input reads as it did. -/
def shadowPlaysUptoRow : OpenClaim := { program := "ytkfncibmfcdokaa", sum := "61503c65893c7bcfb603a8f62b764cf68596e4a03e7a0188d6dca430cc83cba0", func := "pomander/pomanderlaw03.ShadowPlays", spec := "shadowPlays", unfollowed := true, recurses := true, plainKeys := false, apart := false, narrowed := true }
def ShadowPlaysUptoSaid : Prop := shadowPlaysUptoRow.holds Try.pinned (OpenSpec.upto shadowPlaysSpec)

/-- 'pomanderlaw03.ShadowUnions', WHERE WHAT IT READS IS OF BULK AT MOST 1048576: true; the input reads as it did. -/
def shadowUnionsUptoRow : OpenClaim := { program := "ytkfncibmfcdokaa", sum := "61503c65893c7bcfb603a8f62b764cf68596e4a03e7a0188d6dca430cc83cba0", func := "pomander/pomanderlaw03.ShadowUnions", spec := "shadowUnions", unfollowed := true, recurses := true, plainKeys := false, apart := false, narrowed := true }
def ShadowUnionsUptoSaid : Prop := shadowUnionsUptoRow.holds Try.pinned (OpenSpec.upto shadowUnionsSpec)

/-- 'pomanderlaw03.ShadowFills', WHERE WHAT IT READS IS OF BULK AT MOST 1048576: true; the input reads as it did. -/
def shadowFillsUptoRow : OpenClaim := { program := "ytkfncibmfcdokaa", sum := "61503c65893c7bcfb603a8f62b764cf68596e4a03e7a0188d6dca430cc83cba0", func := "pomander/pomanderlaw03.ShadowFills", spec := "shadowFills", unfollowed := true, recurses := true, plainKeys := false, apart := false, narrowed := true }
def ShadowFillsUptoSaid : Prop := shadowFillsUptoRow.holds Try.pinned (OpenSpec.upto shadowFillsSpec)

/-- 'pomanderlaw03.ShadowAlls', WHERE WHAT IT READS IS OF BULK AT MOST 1048576: true; the input reads as it did. -/
def shadowAllsUptoRow : OpenClaim := { program := "ytkfncibmfcdokaa", sum := "61503c65893c7bcfb603a8f62b764cf68596e4a03e7a0188d6dca430cc83cba0", func := "pomander/pomanderlaw03.ShadowAlls", spec := "shadowAlls", unfollowed := true, recurses := true, plainKeys := false, apart := false, narrowed := true }
def ShadowAllsUptoSaid : Prop := shadowAllsUptoRow.holds Try.pinned (OpenSpec.upto shadowAllsSpec)

/-- 'pomanderlaw03.ShadowMakes', WHERE WHAT IT READS IS OF BULK AT MOST 1048576: true; the input reads as it did. -/
def shadowMakesUptoRow : OpenClaim := { program := "ytkfncibmfcdokaa", sum := "61503c65893c7bcfb603a8f62b764cf68596e4a03e7a0188d6dca430cc83cba0", func := "pomander/pomanderlaw03.ShadowMakes", spec := "shadowMakes", unfollowed := true, recurses := true, plainKeys := false, apart := false, narrowed := true }
def ShadowMakesUptoSaid : Prop := shadowMakesUptoRow.holds Try.pinned (OpenSpec.upto shadowMakesSpec)

/-- 'pomanderlaw03.ShadowCopies', WHERE WHAT IT READS IS OF BULK AT MOST 1048576: true; the input reads as it did. -/
def shadowCopiesUptoRow : OpenClaim := { program := "ytkfncibmfcdokaa", sum := "61503c65893c7bcfb603a8f62b764cf68596e4a03e7a0188d6dca430cc83cba0", func := "pomander/pomanderlaw03.ShadowCopies", spec := "shadowCopies", unfollowed := true, recurses := true, plainKeys := false, apart := false, narrowed := true }
def ShadowCopiesUptoSaid : Prop := shadowCopiesUptoRow.holds Try.pinned (OpenSpec.upto shadowCopiesSpec)

/-- 'pomanderlaw03.ShadowFew', WHERE WHAT IT READS IS OF BULK AT MOST 1048576: true; the input reads as it did. -/
def shadowFewUptoRow : OpenClaim := { program := "ytkfncibmfcdokaa", sum := "61503c65893c7bcfb603a8f62b764cf68596e4a03e7a0188d6dca430cc83cba0", func := "pomander/pomanderlaw03.ShadowFew", spec := "shadowFew", unfollowed := true, recurses := true, plainKeys := false, apart := false, narrowed := true }
def ShadowFewUptoSaid : Prop := shadowFewUptoRow.holds Try.pinned (OpenSpec.upto shadowFewSpec)

/-- 'pomanderlaw12.FlowLess', WHERE WHAT IT READS IS OF BULK AT MOST 1048576: true; the input reads as it did. -/
def flowLessUptoRow : OpenClaim := { program := "ytkfncibmfcdokaa", sum := "61503c65893c7bcfb603a8f62b764cf68596e4a03e7a0188d6dca430cc83cba0", func := "pomander/pomanderlaw12.FlowLess", spec := "flowLess", inPlace := ["maps.clone"], unfollowed := true, recurses := true, plainKeys := false, apart := false, narrowed := true }
def FlowLessUptoSaid : Prop := flowLessUptoRow.holds Try.pinned (OpenSpec.upto flowLessSpec)

end Rows
end Go.Proofs.Ytkfncibmfcdokaa
