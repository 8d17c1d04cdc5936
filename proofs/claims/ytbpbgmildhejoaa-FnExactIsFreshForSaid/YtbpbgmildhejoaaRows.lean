/-
  NARROWER THAN 'FOR EVERY INPUT', by the rows' own cells (each row's printed sentence says how): FnExactIsTerm: loops · FnExactSizeOfTerm: loops · FnExactIsGround: loops · FnExactIsSubstitution: loops · FnExactHolesOf: loops · FnExactIsFreshFor: loops · FnExactAtomsOf: loops · FnExactFreeAtoms: loops · FnExactActOn: loops.
  DERIVED. THE GIVEN ROWS OF THIS SEAT. 10 by the template 'for every input the law returns true; each argument reads behind the call as it read before'; 0 by the template 'total and deterministic' (their statements: YtbpbgmildhejoaaTotals.lean).
  GIVEN WITH THE SEED: the statements are not yours to turn. If you find one false, say at which input.
  Laid BY PROGRAM, IN A SANDBOX (cutbox-rows.mjs): the forced cells as the released guide's own fill.sh prints them over the translation 5db23abd8f7b9b93… (all of the seat's roots in one cut). By AI agents, Wed Nov 11 2026. No macro, syntax, notation, axiom, sorry.
-/
import Derived.Test.YtbpbgmildhejoaaChecked
import GoSem.Claim
import GoSem.ClaimJoined
import GoSem.ClaimMapViews
import Derived.JoinedTies
import Derived.KernelRfl
namespace Go.Proofs.Ytbpbgmildhejoaa
/- THE CELL 'sum', in the pinned program and in every row, IS THE sha256 OF THE DUMP (.gsa) THAT YtbpbgmildhejoaaProg.lean LOADS. Nothing in Lean hashes anything: it is a label: what it is worth is what the hold of that sum in a sandbox is worth. -/
noncomputable def Try.pinned : Pinned := { name := "ytbpbgmildhejoaa", sum := "5db23abd8f7b9b937c50010365e1f4560152ae51e45f9c1c087c2d952f98609d", checked := Try.checked }
namespace Rows
def none {H : Type} : Left H := { results := [], args := [] }

/-- 'laws.FnExactIsTerm': WHATEVER THE INPUT: true; the input reads as it did. -/
def fnExactIsTermSpec : ChangeSpec := { name := "fnExactIsTerm", fn := fun _ => fun
  | [d] => { results := [.lit (.bool true)], args := [d] }
  | _ => none }
def fnExactIsTermRow : OpenClaim := { program := "ytbpbgmildhejoaa", sum := "5db23abd8f7b9b937c50010365e1f4560152ae51e45f9c1c087c2d952f98609d", func := "loop.example/g03112/laws.FnExactIsTerm", spec := "fnExactIsTerm", recurses := true, loops := true, apart := false }
def FnExactIsTermSaid : Prop := fnExactIsTermRow.holds Try.pinned (OpenSpec.ofChange fnExactIsTermSpec)

/-- ITS FALSE NEIGHBOUR: 'it returns false'. Refute it at one input. -/
def fnExactIsTermWrong : ChangeSpec := { name := "fnExactIsTerm", fn := fun _ => fun
  | [d] => { results := [.lit (.bool false)], args := [d] }
  | _ => none }
def FnExactIsTermWrongFalsely : Prop := fnExactIsTermRow.holds Try.pinned (OpenSpec.ofChange fnExactIsTermWrong)

/-- 'laws.FnExactSizeOfTerm': WHATEVER THE INPUT: true; the input reads as it did. -/
def fnExactSizeOfTermSpec : ChangeSpec := { name := "fnExactSizeOfTerm", fn := fun _ => fun
  | [d] => { results := [.lit (.bool true)], args := [d] }
  | _ => none }
def fnExactSizeOfTermRow : OpenClaim := { program := "ytbpbgmildhejoaa", sum := "5db23abd8f7b9b937c50010365e1f4560152ae51e45f9c1c087c2d952f98609d", func := "loop.example/g03112/laws.FnExactSizeOfTerm", spec := "fnExactSizeOfTerm", unfollowed := true, recurses := true, loops := true, apart := false }
def FnExactSizeOfTermSaid : Prop := fnExactSizeOfTermRow.holds Try.pinned (OpenSpec.ofChange fnExactSizeOfTermSpec)

/-- ITS FALSE NEIGHBOUR: 'it returns false'. Refute it at one input. -/
def fnExactSizeOfTermWrong : ChangeSpec := { name := "fnExactSizeOfTerm", fn := fun _ => fun
  | [d] => { results := [.lit (.bool false)], args := [d] }
  | _ => none }
def FnExactSizeOfTermWrongFalsely : Prop := fnExactSizeOfTermRow.holds Try.pinned (OpenSpec.ofChange fnExactSizeOfTermWrong)

/-- 'laws.FnExactIsGround': WHATEVER THE INPUT: true; the input reads as it did. -/
def fnExactIsGroundSpec : ChangeSpec := { name := "fnExactIsGround", fn := fun _ => fun
  | [d] => { results := [.lit (.bool true)], args := [d] }
  | _ => none }
def fnExactIsGroundRow : OpenClaim := { program := "ytbpbgmildhejoaa", sum := "5db23abd8f7b9b937c50010365e1f4560152ae51e45f9c1c087c2d952f98609d", func := "loop.example/g03112/laws.FnExactIsGround", spec := "fnExactIsGround", unfollowed := true, recurses := true, loops := true, apart := false }
def FnExactIsGroundSaid : Prop := fnExactIsGroundRow.holds Try.pinned (OpenSpec.ofChange fnExactIsGroundSpec)

/-- ITS FALSE NEIGHBOUR: 'it returns false'. Refute it at one input. -/
def fnExactIsGroundWrong : ChangeSpec := { name := "fnExactIsGround", fn := fun _ => fun
  | [d] => { results := [.lit (.bool false)], args := [d] }
  | _ => none }
def FnExactIsGroundWrongFalsely : Prop := fnExactIsGroundRow.holds Try.pinned (OpenSpec.ofChange fnExactIsGroundWrong)

/-- 'laws.FnExactIsSubstitution': WHATEVER THE INPUT: true; the input reads as it did. -/
def fnExactIsSubstitutionSpec : ChangeSpec := { name := "fnExactIsSubstitution", fn := fun _ => fun
  | [d] => { results := [.lit (.bool true)], args := [d] }
  | _ => none }
def fnExactIsSubstitutionRow : OpenClaim := { program := "ytbpbgmildhejoaa", sum := "5db23abd8f7b9b937c50010365e1f4560152ae51e45f9c1c087c2d952f98609d", func := "loop.example/g03112/laws.FnExactIsSubstitution", spec := "fnExactIsSubstitution", recurses := true, loops := true, apart := false }
def FnExactIsSubstitutionSaid : Prop := fnExactIsSubstitutionRow.holds Try.pinned (OpenSpec.ofChange fnExactIsSubstitutionSpec)

/-- ITS FALSE NEIGHBOUR: 'it returns false'. Refute it at one input. -/
def fnExactIsSubstitutionWrong : ChangeSpec := { name := "fnExactIsSubstitution", fn := fun _ => fun
  | [d] => { results := [.lit (.bool false)], args := [d] }
  | _ => none }
def FnExactIsSubstitutionWrongFalsely : Prop := fnExactIsSubstitutionRow.holds Try.pinned (OpenSpec.ofChange fnExactIsSubstitutionWrong)

/-- 'laws.FnExactHolesOf': WHATEVER THE INPUT: true; the input reads as it did. -/
def fnExactHolesOfSpec : ChangeSpec := { name := "fnExactHolesOf", fn := fun _ => fun
  | [d] => { results := [.lit (.bool true)], args := [d] }
  | _ => none }
def fnExactHolesOfRow : OpenClaim := { program := "ytbpbgmildhejoaa", sum := "5db23abd8f7b9b937c50010365e1f4560152ae51e45f9c1c087c2d952f98609d", func := "loop.example/g03112/laws.FnExactHolesOf", spec := "fnExactHolesOf", unfollowed := true, recurses := true, loops := true, apart := false }
def FnExactHolesOfSaid : Prop := fnExactHolesOfRow.holds Try.pinned (OpenSpec.ofChange fnExactHolesOfSpec)

/-- ITS FALSE NEIGHBOUR: 'it returns false'. Refute it at one input. -/
def fnExactHolesOfWrong : ChangeSpec := { name := "fnExactHolesOf", fn := fun _ => fun
  | [d] => { results := [.lit (.bool false)], args := [d] }
  | _ => none }
def FnExactHolesOfWrongFalsely : Prop := fnExactHolesOfRow.holds Try.pinned (OpenSpec.ofChange fnExactHolesOfWrong)

/-- 'laws.FnExactIsFreshFor': WHATEVER THE INPUT: true; the input reads as it did. -/
def fnExactIsFreshForSpec : ChangeSpec := { name := "fnExactIsFreshFor", fn := fun _ => fun
  | [d1, d2] => { results := [.lit (.bool true)], args := [d1, d2] }
  | _ => none }
def fnExactIsFreshForRow : OpenClaim := { program := "ytbpbgmildhejoaa", sum := "5db23abd8f7b9b937c50010365e1f4560152ae51e45f9c1c087c2d952f98609d", func := "loop.example/g03112/laws.FnExactIsFreshFor", spec := "fnExactIsFreshFor", unfollowed := true, recurses := true, loops := true, apart := false }
def FnExactIsFreshForSaid : Prop := fnExactIsFreshForRow.holds Try.pinned (OpenSpec.ofChange fnExactIsFreshForSpec)

/-- ITS FALSE NEIGHBOUR: 'it returns false'. Refute it at one input. -/
def fnExactIsFreshForWrong : ChangeSpec := { name := "fnExactIsFreshFor", fn := fun _ => fun
  | [d1, d2] => { results := [.lit (.bool false)], args := [d1, d2] }
  | _ => none }
def FnExactIsFreshForWrongFalsely : Prop := fnExactIsFreshForRow.holds Try.pinned (OpenSpec.ofChange fnExactIsFreshForWrong)

/-- 'laws.FnExactAtomsOf': WHATEVER THE INPUT: true; the input reads as it did. -/
def fnExactAtomsOfSpec : ChangeSpec := { name := "fnExactAtomsOf", fn := fun _ => fun
  | [d] => { results := [.lit (.bool true)], args := [d] }
  | _ => none }
def fnExactAtomsOfRow : OpenClaim := { program := "ytbpbgmildhejoaa", sum := "5db23abd8f7b9b937c50010365e1f4560152ae51e45f9c1c087c2d952f98609d", func := "loop.example/g03112/laws.FnExactAtomsOf", spec := "fnExactAtomsOf", unfollowed := true, recurses := true, loops := true, apart := false }
def FnExactAtomsOfSaid : Prop := fnExactAtomsOfRow.holds Try.pinned (OpenSpec.ofChange fnExactAtomsOfSpec)

/-- ITS FALSE NEIGHBOUR: 'it returns false'. Refute it at one input. -/
def fnExactAtomsOfWrong : ChangeSpec := { name := "fnExactAtomsOf", fn := fun _ => fun
  | [d] => { results := [.lit (.bool false)], args := [d] }
  | _ => none }
def FnExactAtomsOfWrongFalsely : Prop := fnExactAtomsOfRow.holds Try.pinned (OpenSpec.ofChange fnExactAtomsOfWrong)

/-- 'laws.FnExactFreeAtoms': WHATEVER THE INPUT: true; the input reads as it did. -/
def fnExactFreeAtomsSpec : ChangeSpec := { name := "fnExactFreeAtoms", fn := fun _ => fun
  | [d] => { results := [.lit (.bool true)], args := [d] }
  | _ => none }
def fnExactFreeAtomsRow : OpenClaim := { program := "ytbpbgmildhejoaa", sum := "5db23abd8f7b9b937c50010365e1f4560152ae51e45f9c1c087c2d952f98609d", func := "loop.example/g03112/laws.FnExactFreeAtoms", spec := "fnExactFreeAtoms", unfollowed := true, recurses := true, loops := true, apart := false }
def FnExactFreeAtomsSaid : Prop := fnExactFreeAtomsRow.holds Try.pinned (OpenSpec.ofChange fnExactFreeAtomsSpec)

/-- ITS FALSE NEIGHBOUR: 'it returns false'. Refute it at one input. -/
def fnExactFreeAtomsWrong : ChangeSpec := { name := "fnExactFreeAtoms", fn := fun _ => fun
  | [d] => { results := [.lit (.bool false)], args := [d] }
  | _ => none }
def FnExactFreeAtomsWrongFalsely : Prop := fnExactFreeAtomsRow.holds Try.pinned (OpenSpec.ofChange fnExactFreeAtomsWrong)

/-- 'laws.FnExactActOn': WHATEVER THE INPUT: true; the input reads as it did. -/
def fnExactActOnSpec : ChangeSpec := { name := "fnExactActOn", fn := fun _ => fun
  | [d1, d2] => { results := [.lit (.bool true)], args := [d1, d2] }
  | _ => none }
def fnExactActOnRow : OpenClaim := { program := "ytbpbgmildhejoaa", sum := "5db23abd8f7b9b937c50010365e1f4560152ae51e45f9c1c087c2d952f98609d", func := "loop.example/g03112/laws.FnExactActOn", spec := "fnExactActOn", recurses := true, loops := true, apart := false }
def FnExactActOnSaid : Prop := fnExactActOnRow.holds Try.pinned (OpenSpec.ofChange fnExactActOnSpec)

/-- ITS FALSE NEIGHBOUR: 'it returns false'. Refute it at one input. -/
def fnExactActOnWrong : ChangeSpec := { name := "fnExactActOn", fn := fun _ => fun
  | [d1, d2] => { results := [.lit (.bool false)], args := [d1, d2] }
  | _ => none }
def FnExactActOnWrongFalsely : Prop := fnExactActOnRow.holds Try.pinned (OpenSpec.ofChange fnExactActOnWrong)

/-- 'laws.FnExactMergeContexts': WHATEVER THE INPUT: true; the input reads as it did. -/
def fnExactMergeContextsSpec : ChangeSpec := { name := "fnExactMergeContexts", fn := fun _ => fun
  | [d1, d2] => { results := [.lit (.bool true)], args := [d1, d2] }
  | _ => none }
def fnExactMergeContextsRow : OpenClaim := { program := "ytbpbgmildhejoaa", sum := "5db23abd8f7b9b937c50010365e1f4560152ae51e45f9c1c087c2d952f98609d", func := "loop.example/g03112/laws.FnExactMergeContexts", spec := "fnExactMergeContexts", unfollowed := true, recurses := true, apart := false }
def FnExactMergeContextsSaid : Prop := fnExactMergeContextsRow.holds Try.pinned (OpenSpec.ofChange fnExactMergeContextsSpec)

/-- ITS FALSE NEIGHBOUR: 'it returns false'. Refute it at one input. -/
def fnExactMergeContextsWrong : ChangeSpec := { name := "fnExactMergeContexts", fn := fun _ => fun
  | [d1, d2] => { results := [.lit (.bool false)], args := [d1, d2] }
  | _ => none }
def FnExactMergeContextsWrongFalsely : Prop := fnExactMergeContextsRow.holds Try.pinned (OpenSpec.ofChange fnExactMergeContextsWrong)

/- THE SECOND FORM. 'bulk': how many values and letters a reading holds, each counted each time it is reached (what is shared counts as often as it is met; a slice's spare places count too). A statement '..UptoSaid' is the law's where the arguments, and the package variables that the reading takes, are together of bulk at most 1048576: NARROWER than '..Said'. Prove '..Said' where nothing that the law and all that it calls make is longer than what came in: it says more and counts as full. Else prove '..UptoSaid'. A law counts once. -/
mutual
def uptoBulk {H : Type} : DataW H → Nat
  | .lit (.string bytes) => bytes.length + 1
  | .lit _ => 1
  | .nil => 1
  | .ptr d => uptoBulk d + 1
  | .slice elems spare => uptoBulkAll elems + uptoBulkAll spare + 1
  | .agg parts => uptoBulkAll parts + 1
  | .iface _ d => uptoBulk d + 1
  | .map entries => uptoBulkEntries entries + 1
  | .held _ => 1
def uptoBulkAll {H : Type} : List (DataW H) → Nat
  | [] => 0
  | d :: r => uptoBulk d + uptoBulkAll r
def uptoBulkEntries {H : Type} : List (Lit × DataW H) → Nat
  | [] => 0
  | x :: r => uptoBulkEntry x + uptoBulkEntries r
def uptoBulkEntry {H : Type} : Lit × DataW H → Nat
  | (.string bytes, d) => bytes.length + uptoBulk d + 1
  | (_, d) => uptoBulk d + 1
 end
def uptoSmall : (H : Type) → List (DataW H) → Bool := fun _ ds => decide (uptoBulkAll ds ≤ 1048576)
def OpenSpec.upto (s : _root_.Go.ChangeSpec) : _root_.Go.OpenSpec := { _root_.Go.OpenSpec.ofChange s with cond := some uptoSmall }

/-- 'laws.FnExactIsTerm', WHERE WHAT IT READS IS OF BULK AT MOST 1048576: true; the input reads as it did. -/
def fnExactIsTermUptoRow : OpenClaim := { program := "ytbpbgmildhejoaa", sum := "5db23abd8f7b9b937c50010365e1f4560152ae51e45f9c1c087c2d952f98609d", func := "loop.example/g03112/laws.FnExactIsTerm", spec := "fnExactIsTerm", recurses := true, loops := true, apart := false, narrowed := true }
def FnExactIsTermUptoSaid : Prop := fnExactIsTermUptoRow.holds Try.pinned (OpenSpec.upto fnExactIsTermSpec)

/-- 'laws.FnExactSizeOfTerm', WHERE WHAT IT READS IS OF BULK AT MOST 1048576: true; the input reads as it did. -/
def fnExactSizeOfTermUptoRow : OpenClaim := { program := "ytbpbgmildhejoaa", sum := "5db23abd8f7b9b937c50010365e1f4560152ae51e45f9c1c087c2d952f98609d", func := "loop.example/g03112/laws.FnExactSizeOfTerm", spec := "fnExactSizeOfTerm", unfollowed := true, recurses := true, loops := true, apart := false, narrowed := true }
def FnExactSizeOfTermUptoSaid : Prop := fnExactSizeOfTermUptoRow.holds Try.pinned (OpenSpec.upto fnExactSizeOfTermSpec)

/-- 'laws.FnExactIsGround', WHERE WHAT IT READS IS OF BULK AT MOST 1048576: true; the input reads as it did. -/
def fnExactIsGroundUptoRow : OpenClaim := { program := "ytbpbgmildhejoaa", sum := "5db23abd8f7b9b937c50010365e1f4560152ae51e45f9c1c087c2d952f98609d", func := "loop.example/g03112/laws.FnExactIsGround", spec := "fnExactIsGround", unfollowed := true, recurses := true, loops := true, apart := false, narrowed := true }
def FnExactIsGroundUptoSaid : Prop := fnExactIsGroundUptoRow.holds Try.pinned (OpenSpec.upto fnExactIsGroundSpec)

/-- 'laws.FnExactIsSubstitution', WHERE WHAT IT READS IS OF BULK AT MOST 1048576: true; the input reads as it did. -/
def fnExactIsSubstitutionUptoRow : OpenClaim := { program := "ytbpbgmildhejoaa", sum := "5db23abd8f7b9b937c50010365e1f4560152ae51e45f9c1c087c2d952f98609d", func := "loop.example/g03112/laws.FnExactIsSubstitution", spec := "fnExactIsSubstitution", recurses := true, loops := true, apart := false, narrowed := true }
def FnExactIsSubstitutionUptoSaid : Prop := fnExactIsSubstitutionUptoRow.holds Try.pinned (OpenSpec.upto fnExactIsSubstitutionSpec)

/-- 'laws.FnExactHolesOf', WHERE WHAT IT READS IS OF BULK AT MOST 1048576: true; the input reads as it did. -/
def fnExactHolesOfUptoRow : OpenClaim := { program := "ytbpbgmildhejoaa", sum := "5db23abd8f7b9b937c50010365e1f4560152ae51e45f9c1c087c2d952f98609d", func := "loop.example/g03112/laws.FnExactHolesOf", spec := "fnExactHolesOf", unfollowed := true, recurses := true, loops := true, apart := false, narrowed := true }
def FnExactHolesOfUptoSaid : Prop := fnExactHolesOfUptoRow.holds Try.pinned (OpenSpec.upto fnExactHolesOfSpec)

/-- 'laws.FnExactIsFreshFor', WHERE WHAT IT READS IS OF BULK AT MOST 1048576: true; the input reads as it did. -/
def fnExactIsFreshForUptoRow : OpenClaim := { program := "ytbpbgmildhejoaa", sum := "5db23abd8f7b9b937c50010365e1f4560152ae51e45f9c1c087c2d952f98609d", func := "loop.example/g03112/laws.FnExactIsFreshFor", spec := "fnExactIsFreshFor", unfollowed := true, recurses := true, loops := true, apart := false, narrowed := true }
def FnExactIsFreshForUptoSaid : Prop := fnExactIsFreshForUptoRow.holds Try.pinned (OpenSpec.upto fnExactIsFreshForSpec)

/-- 'laws.FnExactAtomsOf', WHERE WHAT IT READS IS OF BULK AT MOST 1048576: true; the input reads as it did. -/
def fnExactAtomsOfUptoRow : OpenClaim := { program := "ytbpbgmildhejoaa", sum := "5db23abd8f7b9b937c50010365e1f4560152ae51e45f9c1c087c2d952f98609d", func := "loop.example/g03112/laws.FnExactAtomsOf", spec := "fnExactAtomsOf", unfollowed := true, recurses := true, loops := true, apart := false, narrowed := true }
def FnExactAtomsOfUptoSaid : Prop := fnExactAtomsOfUptoRow.holds Try.pinned (OpenSpec.upto fnExactAtomsOfSpec)

/-- 'laws.FnExactFreeAtoms', WHERE WHAT IT READS IS OF BULK AT MOST 1048576: true; the input reads as it did. -/
def fnExactFreeAtomsUptoRow : OpenClaim := { program := "ytbpbgmildhejoaa", sum := "5db23abd8f7b9b937c50010365e1f4560152ae51e45f9c1c087c2d952f98609d", func := "loop.example/g03112/laws.FnExactFreeAtoms", spec := "fnExactFreeAtoms", unfollowed := true, recurses := true, loops := true, apart := false, narrowed := true }
def FnExactFreeAtomsUptoSaid : Prop := fnExactFreeAtomsUptoRow.holds Try.pinned (OpenSpec.upto fnExactFreeAtomsSpec)

/-- 'laws.FnExactActOn', WHERE WHAT IT READS IS OF BULK AT MOST 1048576: true; the input reads as it did. -/
def fnExactActOnUptoRow : OpenClaim := { program := "ytbpbgmildhejoaa", sum := "5db23abd8f7b9b937c50010365e1f4560152ae51e45f9c1c087c2d952f98609d", func := "loop.example/g03112/laws.FnExactActOn", spec := "fnExactActOn", recurses := true, loops := true, apart := false, narrowed := true }
def FnExactActOnUptoSaid : Prop := fnExactActOnUptoRow.holds Try.pinned (OpenSpec.upto fnExactActOnSpec)

/-- 'laws.FnExactMergeContexts', WHERE WHAT IT READS IS OF BULK AT MOST 1048576: true; the input reads as it did. -/
def fnExactMergeContextsUptoRow : OpenClaim := { program := "ytbpbgmildhejoaa", sum := "5db23abd8f7b9b937c50010365e1f4560152ae51e45f9c1c087c2d952f98609d", func := "loop.example/g03112/laws.FnExactMergeContexts", spec := "fnExactMergeContexts", unfollowed := true, recurses := true, apart := false, narrowed := true }
def FnExactMergeContextsUptoSaid : Prop := fnExactMergeContextsUptoRow.holds Try.pinned (OpenSpec.upto fnExactMergeContextsSpec)

end Rows
end Go.Proofs.Ytbpbgmildhejoaa
