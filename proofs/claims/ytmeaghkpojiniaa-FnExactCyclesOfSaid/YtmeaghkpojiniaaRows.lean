/-
  No cell of these rows narrows 'for every input' (looked for: loops, veiled, ifaces, maps, wideKeys, modest, calm, conditions, laid).
  DERIVED. THE GIVEN ROWS OF THIS SEAT. 12 by the template 'for every input the law returns true; each argument reads behind the call as it read before'; 0 by the template 'total and deterministic' (their statements: YtmeaghkpojiniaaTotals.lean).
  GIVEN WITH THE SEED: the statements are not yours to turn. If you find one false, say at which input.
  Laid BY PROGRAM, IN A SANDBOX (cutbox-rows.mjs): the forced cells as the released guide's own fill.sh prints them over the translation 5740fc7f9b17c2c2… (all of the seat's roots in one cut). By AI agents, Wed Nov 11 2026. No macro, syntax, notation, axiom, sorry.
-/
import Derived.Test.YtmeaghkpojiniaaChecked
import GoSem.Claim
import GoSem.ClaimJoined
import GoSem.ClaimMapViews
import Derived.JoinedTies
import Derived.KernelRfl
namespace Go.Proofs.Ytmeaghkpojiniaa
/- THE CELL 'sum', in the pinned program and in every row, IS THE sha256 OF THE DUMP (.gsa) THAT YtmeaghkpojiniaaProg.lean LOADS. Nothing in Lean hashes anything: it is a label: what it is worth is what the hold of that sum in a sandbox is worth. -/
noncomputable def Try.pinned : Pinned := { name := "ytmeaghkpojiniaa", sum := "5740fc7f9b17c2c274a3adc7265b06c714fa6f777073f95e8cad4708e7bc03d9", checked := Try.checked }
namespace Rows
def none {H : Type} : Left H := { results := [], args := [] }

/-- 'laws.FnExactIsPermutation': WHATEVER THE INPUT: true; the input reads as it did. -/
def fnExactIsPermutationSpec : ChangeSpec := { name := "fnExactIsPermutation", fn := fun _ => fun
  | [d] => { results := [.lit (.bool true)], args := [d] }
  | _ => none }
def fnExactIsPermutationRow : OpenClaim := { program := "ytmeaghkpojiniaa", sum := "5740fc7f9b17c2c274a3adc7265b06c714fa6f777073f95e8cad4708e7bc03d9", func := "loop.example/g03112/laws.FnExactIsPermutation", spec := "fnExactIsPermutation", recurses := true, apart := false }
def FnExactIsPermutationSaid : Prop := fnExactIsPermutationRow.holds Try.pinned (OpenSpec.ofChange fnExactIsPermutationSpec)

/-- ITS FALSE NEIGHBOUR: 'it returns false'. Refute it at one input. -/
def fnExactIsPermutationWrong : ChangeSpec := { name := "fnExactIsPermutation", fn := fun _ => fun
  | [d] => { results := [.lit (.bool false)], args := [d] }
  | _ => none }
def FnExactIsPermutationWrongFalsely : Prop := fnExactIsPermutationRow.holds Try.pinned (OpenSpec.ofChange fnExactIsPermutationWrong)

/-- 'laws.FnExactImageOf': WHATEVER THE INPUT: true; the input reads as it did. -/
def fnExactImageOfSpec : ChangeSpec := { name := "fnExactImageOf", fn := fun _ => fun
  | [d1, d2] => { results := [.lit (.bool true)], args := [d1, d2] }
  | _ => none }
def fnExactImageOfRow : OpenClaim := { program := "ytmeaghkpojiniaa", sum := "5740fc7f9b17c2c274a3adc7265b06c714fa6f777073f95e8cad4708e7bc03d9", func := "loop.example/g03112/laws.FnExactImageOf", spec := "fnExactImageOf", recurses := true, apart := false }
def FnExactImageOfSaid : Prop := fnExactImageOfRow.holds Try.pinned (OpenSpec.ofChange fnExactImageOfSpec)

/-- ITS FALSE NEIGHBOUR: 'it returns false'. Refute it at one input. -/
def fnExactImageOfWrong : ChangeSpec := { name := "fnExactImageOf", fn := fun _ => fun
  | [d1, d2] => { results := [.lit (.bool false)], args := [d1, d2] }
  | _ => none }
def FnExactImageOfWrongFalsely : Prop := fnExactImageOfRow.holds Try.pinned (OpenSpec.ofChange fnExactImageOfWrong)

/-- 'laws.FnExactMovedBy': WHATEVER THE INPUT: true; the input reads as it did. -/
def fnExactMovedBySpec : ChangeSpec := { name := "fnExactMovedBy", fn := fun _ => fun
  | [d] => { results := [.lit (.bool true)], args := [d] }
  | _ => none }
def fnExactMovedByRow : OpenClaim := { program := "ytmeaghkpojiniaa", sum := "5740fc7f9b17c2c274a3adc7265b06c714fa6f777073f95e8cad4708e7bc03d9", func := "loop.example/g03112/laws.FnExactMovedBy", spec := "fnExactMovedBy", recurses := true, apart := false }
def FnExactMovedBySaid : Prop := fnExactMovedByRow.holds Try.pinned (OpenSpec.ofChange fnExactMovedBySpec)

/-- ITS FALSE NEIGHBOUR: 'it returns false'. Refute it at one input. -/
def fnExactMovedByWrong : ChangeSpec := { name := "fnExactMovedBy", fn := fun _ => fun
  | [d] => { results := [.lit (.bool false)], args := [d] }
  | _ => none }
def FnExactMovedByWrongFalsely : Prop := fnExactMovedByRow.holds Try.pinned (OpenSpec.ofChange fnExactMovedByWrong)

/-- 'laws.FnExactOrderOf': WHATEVER THE INPUT: true; the input reads as it did. -/
def fnExactOrderOfSpec : ChangeSpec := { name := "fnExactOrderOf", fn := fun _ => fun
  | [d] => { results := [.lit (.bool true)], args := [d] }
  | _ => none }
def fnExactOrderOfRow : OpenClaim := { program := "ytmeaghkpojiniaa", sum := "5740fc7f9b17c2c274a3adc7265b06c714fa6f777073f95e8cad4708e7bc03d9", func := "loop.example/g03112/laws.FnExactOrderOf", spec := "fnExactOrderOf", recurses := true, apart := false }
def FnExactOrderOfSaid : Prop := fnExactOrderOfRow.holds Try.pinned (OpenSpec.ofChange fnExactOrderOfSpec)

/-- ITS FALSE NEIGHBOUR: 'it returns false'. Refute it at one input. -/
def fnExactOrderOfWrong : ChangeSpec := { name := "fnExactOrderOf", fn := fun _ => fun
  | [d] => { results := [.lit (.bool false)], args := [d] }
  | _ => none }
def FnExactOrderOfWrongFalsely : Prop := fnExactOrderOfRow.holds Try.pinned (OpenSpec.ofChange fnExactOrderOfWrong)

/-- 'laws.FnExactSwapsOf': WHATEVER THE INPUT: true; the input reads as it did. -/
def fnExactSwapsOfSpec : ChangeSpec := { name := "fnExactSwapsOf", fn := fun _ => fun
  | [d] => { results := [.lit (.bool true)], args := [d] }
  | _ => none }
def fnExactSwapsOfRow : OpenClaim := { program := "ytmeaghkpojiniaa", sum := "5740fc7f9b17c2c274a3adc7265b06c714fa6f777073f95e8cad4708e7bc03d9", func := "loop.example/g03112/laws.FnExactSwapsOf", spec := "fnExactSwapsOf", recurses := true, apart := false }
def FnExactSwapsOfSaid : Prop := fnExactSwapsOfRow.holds Try.pinned (OpenSpec.ofChange fnExactSwapsOfSpec)

/-- ITS FALSE NEIGHBOUR: 'it returns false'. Refute it at one input. -/
def fnExactSwapsOfWrong : ChangeSpec := { name := "fnExactSwapsOf", fn := fun _ => fun
  | [d] => { results := [.lit (.bool false)], args := [d] }
  | _ => none }
def FnExactSwapsOfWrongFalsely : Prop := fnExactSwapsOfRow.holds Try.pinned (OpenSpec.ofChange fnExactSwapsOfWrong)

/-- 'laws.FnExactComposePermutations': WHATEVER THE INPUT: true; the input reads as it did. -/
def fnExactComposePermutationsSpec : ChangeSpec := { name := "fnExactComposePermutations", fn := fun _ => fun
  | [d1, d2] => { results := [.lit (.bool true)], args := [d1, d2] }
  | _ => none }
def fnExactComposePermutationsRow : OpenClaim := { program := "ytmeaghkpojiniaa", sum := "5740fc7f9b17c2c274a3adc7265b06c714fa6f777073f95e8cad4708e7bc03d9", func := "loop.example/g03112/laws.FnExactComposePermutations", spec := "fnExactComposePermutations", recurses := true, apart := false }
def FnExactComposePermutationsSaid : Prop := fnExactComposePermutationsRow.holds Try.pinned (OpenSpec.ofChange fnExactComposePermutationsSpec)

/-- ITS FALSE NEIGHBOUR: 'it returns false'. Refute it at one input. -/
def fnExactComposePermutationsWrong : ChangeSpec := { name := "fnExactComposePermutations", fn := fun _ => fun
  | [d1, d2] => { results := [.lit (.bool false)], args := [d1, d2] }
  | _ => none }
def FnExactComposePermutationsWrongFalsely : Prop := fnExactComposePermutationsRow.holds Try.pinned (OpenSpec.ofChange fnExactComposePermutationsWrong)

/-- 'laws.FnExactDifferenceOf': WHATEVER THE INPUT: true; the input reads as it did. -/
def fnExactDifferenceOfSpec : ChangeSpec := { name := "fnExactDifferenceOf", fn := fun _ => fun
  | [d1, d2] => { results := [.lit (.bool true)], args := [d1, d2] }
  | _ => none }
def fnExactDifferenceOfRow : OpenClaim := { program := "ytmeaghkpojiniaa", sum := "5740fc7f9b17c2c274a3adc7265b06c714fa6f777073f95e8cad4708e7bc03d9", func := "loop.example/g03112/laws.FnExactDifferenceOf", spec := "fnExactDifferenceOf", recurses := true, apart := false }
def FnExactDifferenceOfSaid : Prop := fnExactDifferenceOfRow.holds Try.pinned (OpenSpec.ofChange fnExactDifferenceOfSpec)

/-- ITS FALSE NEIGHBOUR: 'it returns false'. Refute it at one input. -/
def fnExactDifferenceOfWrong : ChangeSpec := { name := "fnExactDifferenceOf", fn := fun _ => fun
  | [d1, d2] => { results := [.lit (.bool false)], args := [d1, d2] }
  | _ => none }
def FnExactDifferenceOfWrongFalsely : Prop := fnExactDifferenceOfRow.holds Try.pinned (OpenSpec.ofChange fnExactDifferenceOfWrong)

/-- 'laws.FnOrder': WHATEVER THE INPUT: true; the input reads as it did. -/
def fnOrderSpec : ChangeSpec := { name := "fnOrder", fn := fun _ => fun
  | [d] => { results := [.lit (.bool true)], args := [d] }
  | _ => none }
def fnOrderRow : OpenClaim := { program := "ytmeaghkpojiniaa", sum := "5740fc7f9b17c2c274a3adc7265b06c714fa6f777073f95e8cad4708e7bc03d9", func := "loop.example/g03112/laws.FnOrder", spec := "fnOrder", recurses := true, apart := false }
def FnOrderSaid : Prop := fnOrderRow.holds Try.pinned (OpenSpec.ofChange fnOrderSpec)

/-- ITS FALSE NEIGHBOUR: 'it returns false'. Refute it at one input. -/
def fnOrderWrong : ChangeSpec := { name := "fnOrder", fn := fun _ => fun
  | [d] => { results := [.lit (.bool false)], args := [d] }
  | _ => none }
def FnOrderWrongFalsely : Prop := fnOrderRow.holds Try.pinned (OpenSpec.ofChange fnOrderWrong)

/-- 'laws.FnExactCyclesOf': WHATEVER THE INPUT: true; the input reads as it did. -/
def fnExactCyclesOfSpec : ChangeSpec := { name := "fnExactCyclesOf", fn := fun _ => fun
  | [d] => { results := [.lit (.bool true)], args := [d] }
  | _ => none }
def fnExactCyclesOfRow : OpenClaim := { program := "ytmeaghkpojiniaa", sum := "5740fc7f9b17c2c274a3adc7265b06c714fa6f777073f95e8cad4708e7bc03d9", func := "loop.example/g03112/laws.FnExactCyclesOf", spec := "fnExactCyclesOf", recurses := true, apart := false }
def FnExactCyclesOfSaid : Prop := fnExactCyclesOfRow.holds Try.pinned (OpenSpec.ofChange fnExactCyclesOfSpec)

/-- ITS FALSE NEIGHBOUR: 'it returns false'. Refute it at one input. -/
def fnExactCyclesOfWrong : ChangeSpec := { name := "fnExactCyclesOf", fn := fun _ => fun
  | [d] => { results := [.lit (.bool false)], args := [d] }
  | _ => none }
def FnExactCyclesOfWrongFalsely : Prop := fnExactCyclesOfRow.holds Try.pinned (OpenSpec.ofChange fnExactCyclesOfWrong)

/-- 'laws.FnCycles': WHATEVER THE INPUT: true; the input reads as it did. -/
def fnCyclesSpec : ChangeSpec := { name := "fnCycles", fn := fun _ => fun
  | [d] => { results := [.lit (.bool true)], args := [d] }
  | _ => none }
def fnCyclesRow : OpenClaim := { program := "ytmeaghkpojiniaa", sum := "5740fc7f9b17c2c274a3adc7265b06c714fa6f777073f95e8cad4708e7bc03d9", func := "loop.example/g03112/laws.FnCycles", spec := "fnCycles", recurses := true, apart := false }
def FnCyclesSaid : Prop := fnCyclesRow.holds Try.pinned (OpenSpec.ofChange fnCyclesSpec)

/-- ITS FALSE NEIGHBOUR: 'it returns false'. Refute it at one input. -/
def fnCyclesWrong : ChangeSpec := { name := "fnCycles", fn := fun _ => fun
  | [d] => { results := [.lit (.bool false)], args := [d] }
  | _ => none }
def FnCyclesWrongFalsely : Prop := fnCyclesRow.holds Try.pinned (OpenSpec.ofChange fnCyclesWrong)

/-- 'laws.FnExactInversePermutation': WHATEVER THE INPUT: true; the input reads as it did. -/
def fnExactInversePermutationSpec : ChangeSpec := { name := "fnExactInversePermutation", fn := fun _ => fun
  | [d] => { results := [.lit (.bool true)], args := [d] }
  | _ => none }
def fnExactInversePermutationRow : OpenClaim := { program := "ytmeaghkpojiniaa", sum := "5740fc7f9b17c2c274a3adc7265b06c714fa6f777073f95e8cad4708e7bc03d9", func := "loop.example/g03112/laws.FnExactInversePermutation", spec := "fnExactInversePermutation", unfollowed := true, recurses := true, apart := false }
def FnExactInversePermutationSaid : Prop := fnExactInversePermutationRow.holds Try.pinned (OpenSpec.ofChange fnExactInversePermutationSpec)

/-- ITS FALSE NEIGHBOUR: 'it returns false'. Refute it at one input. -/
def fnExactInversePermutationWrong : ChangeSpec := { name := "fnExactInversePermutation", fn := fun _ => fun
  | [d] => { results := [.lit (.bool false)], args := [d] }
  | _ => none }
def FnExactInversePermutationWrongFalsely : Prop := fnExactInversePermutationRow.holds Try.pinned (OpenSpec.ofChange fnExactInversePermutationWrong)

/-- 'laws.FnComposed': WHATEVER THE INPUT: true; the input reads as it did. -/
def fnComposedSpec : ChangeSpec := { name := "fnComposed", fn := fun _ => fun
  | [d] => { results := [.lit (.bool true)], args := [d] }
  | _ => none }
def fnComposedRow : OpenClaim := { program := "ytmeaghkpojiniaa", sum := "5740fc7f9b17c2c274a3adc7265b06c714fa6f777073f95e8cad4708e7bc03d9", func := "loop.example/g03112/laws.FnComposed", spec := "fnComposed", unfollowed := true, recurses := true, apart := false }
def FnComposedSaid : Prop := fnComposedRow.holds Try.pinned (OpenSpec.ofChange fnComposedSpec)

/-- ITS FALSE NEIGHBOUR: 'it returns false'. Refute it at one input. -/
def fnComposedWrong : ChangeSpec := { name := "fnComposed", fn := fun _ => fun
  | [d] => { results := [.lit (.bool false)], args := [d] }
  | _ => none }
def FnComposedWrongFalsely : Prop := fnComposedRow.holds Try.pinned (OpenSpec.ofChange fnComposedWrong)

/- THE SECOND FORM. 'bulk': how many values and letters a reading holds, each counted each time it is reached (what is shared counts as often as it is met; a slice's spare places count too). A statement '..UptoSaid' is the law's where the arguments, and the package variables that the reading takes, are together of bulk at most 1048576: NARROWER than '..Said'. Prove '..Said' where nothing that the law and all that it calls make is longer than what came in: it says more and counts as full. Else prove '..UptoSaid'. A law counts once. -/
mutual
def uptoBulk {H : Type} : DataW H → Nat
  | .lit (.string bytes) => bytes.length + 1
  | .lit _ => 1
  | .nil => 1
  | .ptr d => uptoBulk d + 1
  | .slice elems spare => uptoBulkAll elems + uptoBulkAll spare + 1
  | .agg parts => uptoBulkAll parts + 1
  | .iface _ d => uptoBulk d + 1
  | .map entries => uptoBulkEntries entries + 1
  | .held _ => 1
def uptoBulkAll {H : Type} : List (DataW H) → Nat
  | [] => 0
  | d :: r => uptoBulk d + uptoBulkAll r
def uptoBulkEntries {H : Type} : List (Lit × DataW H) → Nat
  | [] => 0
  | x :: r => uptoBulkEntry x + uptoBulkEntries r
def uptoBulkEntry {H : Type} : Lit × DataW H → Nat
  | (.string bytes, d) => bytes.length + uptoBulk d + 1
  | (_, d) => uptoBulk d + 1
 end
def uptoSmall : (H : Type) → List (DataW H) → Bool := fun _ ds => decide (uptoBulkAll ds ≤ 1048576)
def OpenSpec.upto (s : _root_.Go.ChangeSpec) : _root_.Go.OpenSpec := { _root_.Go.OpenSpec.ofChange s with cond := some uptoSmall }

/-- 'laws.FnExactIsPermutation', WHERE WHAT IT READS IS OF BULK AT MOST 1048576: true; the input reads as it did. -/
def fnExactIsPermutationUptoRow : OpenClaim := { program := "ytmeaghkpojiniaa", sum := "5740fc7f9b17c2c274a3adc7265b06c714fa6f777073f95e8cad4708e7bc03d9", func := "loop.example/g03112/laws.FnExactIsPermutation", spec := "fnExactIsPermutation", recurses := true, apart := false, narrowed := true }
def FnExactIsPermutationUptoSaid : Prop := fnExactIsPermutationUptoRow.holds Try.pinned (OpenSpec.upto fnExactIsPermutationSpec)

/-- 'laws.FnExactImageOf', WHERE WHAT IT READS IS OF BULK AT MOST 1048576: true; the input reads as it did. -/
def fnExactImageOfUptoRow : OpenClaim := { program := "ytmeaghkpojiniaa", sum := "5740fc7f9b17c2c274a3adc7265b06c714fa6f777073f95e8cad4708e7bc03d9", func := "loop.example/g03112/laws.FnExactImageOf", spec := "fnExactImageOf", recurses := true, apart := false, narrowed := true }
def FnExactImageOfUptoSaid : Prop := fnExactImageOfUptoRow.holds Try.pinned (OpenSpec.upto fnExactImageOfSpec)

/-- 'laws.FnExactMovedBy', WHERE WHAT IT READS IS OF BULK AT MOST 1048576: true; the input reads as it did. -/
def fnExactMovedByUptoRow : OpenClaim := { program := "ytmeaghkpojiniaa", sum := "5740fc7f9b17c2c274a3adc7265b06c714fa6f777073f95e8cad4708e7bc03d9", func := "loop.example/g03112/laws.FnExactMovedBy", spec := "fnExactMovedBy", recurses := true, apart := false, narrowed := true }
def FnExactMovedByUptoSaid : Prop := fnExactMovedByUptoRow.holds Try.pinned (OpenSpec.upto fnExactMovedBySpec)

/-- 'laws.FnExactOrderOf', WHERE WHAT IT READS IS OF BULK AT MOST 1048576: true; the input reads as it did. -/
def fnExactOrderOfUptoRow : OpenClaim := { program := "ytmeaghkpojiniaa", sum := "5740fc7f9b17c2c274a3adc7265b06c714fa6f777073f95e8cad4708e7bc03d9", func := "loop.example/g03112/laws.FnExactOrderOf", spec := "fnExactOrderOf", recurses := true, apart := false, narrowed := true }
def FnExactOrderOfUptoSaid : Prop := fnExactOrderOfUptoRow.holds Try.pinned (OpenSpec.upto fnExactOrderOfSpec)

/-- 'laws.FnExactSwapsOf', WHERE WHAT IT READS IS OF BULK AT MOST 1048576: true; the input reads as it did. -/
def fnExactSwapsOfUptoRow : OpenClaim := { program := "ytmeaghkpojiniaa", sum := "5740fc7f9b17c2c274a3adc7265b06c714fa6f777073f95e8cad4708e7bc03d9", func := "loop.example/g03112/laws.FnExactSwapsOf", spec := "fnExactSwapsOf", recurses := true, apart := false, narrowed := true }
def FnExactSwapsOfUptoSaid : Prop := fnExactSwapsOfUptoRow.holds Try.pinned (OpenSpec.upto fnExactSwapsOfSpec)

/-- 'laws.FnExactComposePermutations', WHERE WHAT IT READS IS OF BULK AT MOST 1048576: true; the input reads as it did. -/
def fnExactComposePermutationsUptoRow : OpenClaim := { program := "ytmeaghkpojiniaa", sum := "5740fc7f9b17c2c274a3adc7265b06c714fa6f777073f95e8cad4708e7bc03d9", func := "loop.example/g03112/laws.FnExactComposePermutations", spec := "fnExactComposePermutations", recurses := true, apart := false, narrowed := true }
def FnExactComposePermutationsUptoSaid : Prop := fnExactComposePermutationsUptoRow.holds Try.pinned (OpenSpec.upto fnExactComposePermutationsSpec)

/-- 'laws.FnExactDifferenceOf', WHERE WHAT IT READS IS OF BULK AT MOST 1048576: true; the input reads as it did. -/
def fnExactDifferenceOfUptoRow : OpenClaim := { program := "ytmeaghkpojiniaa", sum := "5740fc7f9b17c2c274a3adc7265b06c714fa6f777073f95e8cad4708e7bc03d9", func := "loop.example/g03112/laws.FnExactDifferenceOf", spec := "fnExactDifferenceOf", recurses := true, apart := false, narrowed := true }
def FnExactDifferenceOfUptoSaid : Prop := fnExactDifferenceOfUptoRow.holds Try.pinned (OpenSpec.upto fnExactDifferenceOfSpec)

/-- 'laws.FnOrder', WHERE WHAT IT READS IS OF BULK AT MOST 1048576: true; the input reads as it did. -/
def fnOrderUptoRow : OpenClaim := { program := "ytmeaghkpojiniaa", sum := "5740fc7f9b17c2c274a3adc7265b06c714fa6f777073f95e8cad4708e7bc03d9", func := "loop.example/g03112/laws.FnOrder", spec := "fnOrder", recurses := true, apart := false, narrowed := true }
def FnOrderUptoSaid : Prop := fnOrderUptoRow.holds Try.pinned (OpenSpec.upto fnOrderSpec)

/-- 'laws.FnExactCyclesOf', WHERE WHAT IT READS IS OF BULK AT MOST 1048576: true; the input reads as it did. -/
def fnExactCyclesOfUptoRow : OpenClaim := { program := "ytmeaghkpojiniaa", sum := "5740fc7f9b17c2c274a3adc7265b06c714fa6f777073f95e8cad4708e7bc03d9", func := "loop.example/g03112/laws.FnExactCyclesOf", spec := "fnExactCyclesOf", recurses := true, apart := false, narrowed := true }
def FnExactCyclesOfUptoSaid : Prop := fnExactCyclesOfUptoRow.holds Try.pinned (OpenSpec.upto fnExactCyclesOfSpec)

/-- 'laws.FnCycles', WHERE WHAT IT READS IS OF BULK AT MOST 1048576: true; the input reads as it did. -/
def fnCyclesUptoRow : OpenClaim := { program := "ytmeaghkpojiniaa", sum := "5740fc7f9b17c2c274a3adc7265b06c714fa6f777073f95e8cad4708e7bc03d9", func := "loop.example/g03112/laws.FnCycles", spec := "fnCycles", recurses := true, apart := false, narrowed := true }
def FnCyclesUptoSaid : Prop := fnCyclesUptoRow.holds Try.pinned (OpenSpec.upto fnCyclesSpec)

/-- 'laws.FnExactInversePermutation', WHERE WHAT IT READS IS OF BULK AT MOST 1048576: true; the input reads as it did. -/
def fnExactInversePermutationUptoRow : OpenClaim := { program := "ytmeaghkpojiniaa", sum := "5740fc7f9b17c2c274a3adc7265b06c714fa6f777073f95e8cad4708e7bc03d9", func := "loop.example/g03112/laws.FnExactInversePermutation", spec := "fnExactInversePermutation", unfollowed := true, recurses := true, apart := false, narrowed := true }
def FnExactInversePermutationUptoSaid : Prop := fnExactInversePermutationUptoRow.holds Try.pinned (OpenSpec.upto fnExactInversePermutationSpec)

/-- 'laws.FnComposed', WHERE WHAT IT READS IS OF BULK AT MOST 1048576: true; the input reads as it did. -/
def fnComposedUptoRow : OpenClaim := { program := "ytmeaghkpojiniaa", sum := "5740fc7f9b17c2c274a3adc7265b06c714fa6f777073f95e8cad4708e7bc03d9", func := "loop.example/g03112/laws.FnComposed", spec := "fnComposed", unfollowed := true, recurses := true, apart := false, narrowed := true }
def FnComposedUptoSaid : Prop := fnComposedUptoRow.holds Try.pinned (OpenSpec.upto fnComposedSpec)

end Rows
end Go.Proofs.Ytmeaghkpojiniaa
