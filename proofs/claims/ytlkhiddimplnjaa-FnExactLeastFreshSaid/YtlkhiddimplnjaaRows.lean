/-
  NARROWER THAN 'FOR EVERY INPUT', by the rows' own cells (each row's printed sentence says how): FnExactSameTerms: loops.
  DERIVED. THE GIVEN ROWS OF THIS SEAT. 6 by the template 'for every input the law returns true; each argument reads behind the call as it read before'; 0 by the template 'total and deterministic' (their statements: YtlkhiddimplnjaaTotals.lean).
  GIVEN WITH THE SEED: the statements are not yours to turn. If you find one false, say at which input.
  Laid BY PROGRAM, IN A SANDBOX (cutbox-rows.mjs): the forced cells as the released guide's own fill.sh prints them over the translation bfea8199b4c9a9ee… (all of the seat's roots in one cut). By AI agents, Wed Nov 11 2026. No macro, syntax, notation, axiom, sorry.
-/
import Derived.Test.YtlkhiddimplnjaaChecked
import GoSem.Claim
import GoSem.ClaimJoined
import GoSem.ClaimMapViews
import Derived.JoinedTies
import Derived.KernelRfl
namespace Go.Proofs.Ytlkhiddimplnjaa
/- THE CELL 'sum', in the pinned program and in every row, IS THE sha256 OF THE DUMP (.gsa) THAT YtlkhiddimplnjaaProg.lean LOADS. Nothing in Lean hashes anything: it is a label: what it is worth is what the hold of that sum in a sandbox is worth. -/
noncomputable def Try.pinned : Pinned := { name := "ytlkhiddimplnjaa", sum := "bfea8199b4c9a9eed809ac7a9c306ddf9ae5184e9d4768ae3a4c0b2bbb1a9905", checked := Try.checked }
namespace Rows
def none {H : Type} : Left H := { results := [], args := [] }

/-- 'laws.FnExactConstants': WHATEVER THE INPUT: true; the input reads as it did. -/
def fnExactConstantsSpec : ChangeSpec := { name := "fnExactConstants", fn := fun _ => fun
  | [] => { results := [.lit (.bool true)], args := [] }
  | _ => none }
def fnExactConstantsRow : OpenClaim := { program := "ytlkhiddimplnjaa", sum := "bfea8199b4c9a9eed809ac7a9c306ddf9ae5184e9d4768ae3a4c0b2bbb1a9905", func := "loop.example/g03112/laws.FnExactConstants", spec := "fnExactConstants", apart := false }
def FnExactConstantsSaid : Prop := fnExactConstantsRow.holds Try.pinned (OpenSpec.ofChange fnExactConstantsSpec)

/-- ITS FALSE NEIGHBOUR: 'it returns false'. Refute it at one input. -/
def fnExactConstantsWrong : ChangeSpec := { name := "fnExactConstants", fn := fun _ => fun
  | [] => { results := [.lit (.bool false)], args := [] }
  | _ => none }
def FnExactConstantsWrongFalsely : Prop := fnExactConstantsRow.holds Try.pinned (OpenSpec.ofChange fnExactConstantsWrong)

/-- 'laws.FnExactLeastFresh': WHATEVER THE INPUT: true; the input reads as it did. -/
def fnExactLeastFreshSpec : ChangeSpec := { name := "fnExactLeastFresh", fn := fun _ => fun
  | [d] => { results := [.lit (.bool true)], args := [d] }
  | _ => none }
def fnExactLeastFreshRow : OpenClaim := { program := "ytlkhiddimplnjaa", sum := "bfea8199b4c9a9eed809ac7a9c306ddf9ae5184e9d4768ae3a4c0b2bbb1a9905", func := "loop.example/g03112/laws.FnExactLeastFresh", spec := "fnExactLeastFresh", apart := false }
def FnExactLeastFreshSaid : Prop := fnExactLeastFreshRow.holds Try.pinned (OpenSpec.ofChange fnExactLeastFreshSpec)

/-- ITS FALSE NEIGHBOUR: 'it returns false'. Refute it at one input. -/
def fnExactLeastFreshWrong : ChangeSpec := { name := "fnExactLeastFresh", fn := fun _ => fun
  | [d] => { results := [.lit (.bool false)], args := [d] }
  | _ => none }
def FnExactLeastFreshWrongFalsely : Prop := fnExactLeastFreshRow.holds Try.pinned (OpenSpec.ofChange fnExactLeastFreshWrong)

/-- 'laws.FnExactSwapOf': WHATEVER THE INPUT: true; the input reads as it did. -/
def fnExactSwapOfSpec : ChangeSpec := { name := "fnExactSwapOf", fn := fun _ => fun
  | [d1, d2] => { results := [.lit (.bool true)], args := [d1, d2] }
  | _ => none }
def fnExactSwapOfRow : OpenClaim := { program := "ytlkhiddimplnjaa", sum := "bfea8199b4c9a9eed809ac7a9c306ddf9ae5184e9d4768ae3a4c0b2bbb1a9905", func := "loop.example/g03112/laws.FnExactSwapOf", spec := "fnExactSwapOf", apart := false }
def FnExactSwapOfSaid : Prop := fnExactSwapOfRow.holds Try.pinned (OpenSpec.ofChange fnExactSwapOfSpec)

/-- ITS FALSE NEIGHBOUR: 'it returns false'. Refute it at one input. -/
def fnExactSwapOfWrong : ChangeSpec := { name := "fnExactSwapOf", fn := fun _ => fun
  | [d1, d2] => { results := [.lit (.bool false)], args := [d1, d2] }
  | _ => none }
def FnExactSwapOfWrongFalsely : Prop := fnExactSwapOfRow.holds Try.pinned (OpenSpec.ofChange fnExactSwapOfWrong)

/-- 'laws.FnExactIsContext': WHATEVER THE INPUT: true; the input reads as it did. -/
def fnExactIsContextSpec : ChangeSpec := { name := "fnExactIsContext", fn := fun _ => fun
  | [d] => { results := [.lit (.bool true)], args := [d] }
  | _ => none }
def fnExactIsContextRow : OpenClaim := { program := "ytlkhiddimplnjaa", sum := "bfea8199b4c9a9eed809ac7a9c306ddf9ae5184e9d4768ae3a4c0b2bbb1a9905", func := "loop.example/g03112/laws.FnExactIsContext", spec := "fnExactIsContext", apart := false }
def FnExactIsContextSaid : Prop := fnExactIsContextRow.holds Try.pinned (OpenSpec.ofChange fnExactIsContextSpec)

/-- ITS FALSE NEIGHBOUR: 'it returns false'. Refute it at one input. -/
def fnExactIsContextWrong : ChangeSpec := { name := "fnExactIsContext", fn := fun _ => fun
  | [d] => { results := [.lit (.bool false)], args := [d] }
  | _ => none }
def FnExactIsContextWrongFalsely : Prop := fnExactIsContextRow.holds Try.pinned (OpenSpec.ofChange fnExactIsContextWrong)

/-- 'laws.FnExactIncludesContext': WHATEVER THE INPUT: true; the input reads as it did. -/
def fnExactIncludesContextSpec : ChangeSpec := { name := "fnExactIncludesContext", fn := fun _ => fun
  | [d1, d2] => { results := [.lit (.bool true)], args := [d1, d2] }
  | _ => none }
def fnExactIncludesContextRow : OpenClaim := { program := "ytlkhiddimplnjaa", sum := "bfea8199b4c9a9eed809ac7a9c306ddf9ae5184e9d4768ae3a4c0b2bbb1a9905", func := "loop.example/g03112/laws.FnExactIncludesContext", spec := "fnExactIncludesContext", apart := false }
def FnExactIncludesContextSaid : Prop := fnExactIncludesContextRow.holds Try.pinned (OpenSpec.ofChange fnExactIncludesContextSpec)

/-- ITS FALSE NEIGHBOUR: 'it returns false'. Refute it at one input. -/
def fnExactIncludesContextWrong : ChangeSpec := { name := "fnExactIncludesContext", fn := fun _ => fun
  | [d1, d2] => { results := [.lit (.bool false)], args := [d1, d2] }
  | _ => none }
def FnExactIncludesContextWrongFalsely : Prop := fnExactIncludesContextRow.holds Try.pinned (OpenSpec.ofChange fnExactIncludesContextWrong)

/-- 'laws.FnExactSameTerms': WHATEVER THE INPUT: true; the input reads as it did. -/
def fnExactSameTermsSpec : ChangeSpec := { name := "fnExactSameTerms", fn := fun _ => fun
  | [d1, d2] => { results := [.lit (.bool true)], args := [d1, d2] }
  | _ => none }
def fnExactSameTermsRow : OpenClaim := { program := "ytlkhiddimplnjaa", sum := "bfea8199b4c9a9eed809ac7a9c306ddf9ae5184e9d4768ae3a4c0b2bbb1a9905", func := "loop.example/g03112/laws.FnExactSameTerms", spec := "fnExactSameTerms", unfollowed := true, recurses := true, loops := true, apart := false }
def FnExactSameTermsSaid : Prop := fnExactSameTermsRow.holds Try.pinned (OpenSpec.ofChange fnExactSameTermsSpec)

/-- ITS FALSE NEIGHBOUR: 'it returns false'. Refute it at one input. -/
def fnExactSameTermsWrong : ChangeSpec := { name := "fnExactSameTerms", fn := fun _ => fun
  | [d1, d2] => { results := [.lit (.bool false)], args := [d1, d2] }
  | _ => none }
def FnExactSameTermsWrongFalsely : Prop := fnExactSameTermsRow.holds Try.pinned (OpenSpec.ofChange fnExactSameTermsWrong)

/- THE SECOND FORM. 'bulk': how many values and letters a reading holds, each counted each time it is reached (what is shared counts as often as it is met; a slice's spare places count too). A statement '..UptoSaid' is the law's where the arguments, and the package variables that the reading takes, are together of bulk at most 1048576: NARROWER than '..Said'. Prove '..Said' where nothing that the law and all that it calls make is longer than what came in: it says more and counts as full. Else prove '..UptoSaid'. A law counts once. -/
mutual
def uptoBulk {H : Type} : DataW H → Nat
  | .lit (.string bytes) => bytes.length + 1
  | .lit _ => 1
  | .nil => 1
  | .ptr d => uptoBulk d + 1
  | .slice elems spare => uptoBulkAll elems + uptoBulkAll spare + 1
  | .agg parts => uptoBulkAll parts + 1
  | .iface _ d => uptoBulk d + 1
  | .map entries => uptoBulkEntries entries + 1
  | .held _ => 1
def uptoBulkAll {H : Type} : List (DataW H) → Nat
  | [] => 0
  | d :: r => uptoBulk d + uptoBulkAll r
def uptoBulkEntries {H : Type} : List (Lit × DataW H) → Nat
  | [] => 0
  | x :: r => uptoBulkEntry x + uptoBulkEntries r
def uptoBulkEntry {H : Type} : Lit × DataW H → Nat
  | (.string bytes, d) => bytes.length + uptoBulk d + 1
  | (_, d) => uptoBulk d + 1
 end
def uptoSmall : (H : Type) → List (DataW H) → Bool := fun _ ds => decide (uptoBulkAll ds ≤ 1048576)
def OpenSpec.upto (s : _root_.Go.ChangeSpec) : _root_.Go.OpenSpec := { _root_.Go.OpenSpec.ofChange s with cond := some uptoSmall }

/-- 'laws.FnExactConstants', WHERE WHAT IT READS IS OF BULK AT MOST 1048576: true; the input reads as it did. -/
def fnExactConstantsUptoRow : OpenClaim := { program := "ytlkhiddimplnjaa", sum := "bfea8199b4c9a9eed809ac7a9c306ddf9ae5184e9d4768ae3a4c0b2bbb1a9905", func := "loop.example/g03112/laws.FnExactConstants", spec := "fnExactConstants", apart := false, narrowed := true }
def FnExactConstantsUptoSaid : Prop := fnExactConstantsUptoRow.holds Try.pinned (OpenSpec.upto fnExactConstantsSpec)

/-- 'laws.FnExactLeastFresh', WHERE WHAT IT READS IS OF BULK AT MOST 1048576: true; the input reads as it did. -/
def fnExactLeastFreshUptoRow : OpenClaim := { program := "ytlkhiddimplnjaa", sum := "bfea8199b4c9a9eed809ac7a9c306ddf9ae5184e9d4768ae3a4c0b2bbb1a9905", func := "loop.example/g03112/laws.FnExactLeastFresh", spec := "fnExactLeastFresh", apart := false, narrowed := true }
def FnExactLeastFreshUptoSaid : Prop := fnExactLeastFreshUptoRow.holds Try.pinned (OpenSpec.upto fnExactLeastFreshSpec)

/-- 'laws.FnExactSwapOf', WHERE WHAT IT READS IS OF BULK AT MOST 1048576: true; the input reads as it did. -/
def fnExactSwapOfUptoRow : OpenClaim := { program := "ytlkhiddimplnjaa", sum := "bfea8199b4c9a9eed809ac7a9c306ddf9ae5184e9d4768ae3a4c0b2bbb1a9905", func := "loop.example/g03112/laws.FnExactSwapOf", spec := "fnExactSwapOf", apart := false, narrowed := true }
def FnExactSwapOfUptoSaid : Prop := fnExactSwapOfUptoRow.holds Try.pinned (OpenSpec.upto fnExactSwapOfSpec)

/-- 'laws.FnExactIsContext', WHERE WHAT IT READS IS OF BULK AT MOST 1048576: true; the input reads as it did. -/
def fnExactIsContextUptoRow : OpenClaim := { program := "ytlkhiddimplnjaa", sum := "bfea8199b4c9a9eed809ac7a9c306ddf9ae5184e9d4768ae3a4c0b2bbb1a9905", func := "loop.example/g03112/laws.FnExactIsContext", spec := "fnExactIsContext", apart := false, narrowed := true }
def FnExactIsContextUptoSaid : Prop := fnExactIsContextUptoRow.holds Try.pinned (OpenSpec.upto fnExactIsContextSpec)

/-- 'laws.FnExactIncludesContext', WHERE WHAT IT READS IS OF BULK AT MOST 1048576: true; the input reads as it did. -/
def fnExactIncludesContextUptoRow : OpenClaim := { program := "ytlkhiddimplnjaa", sum := "bfea8199b4c9a9eed809ac7a9c306ddf9ae5184e9d4768ae3a4c0b2bbb1a9905", func := "loop.example/g03112/laws.FnExactIncludesContext", spec := "fnExactIncludesContext", apart := false, narrowed := true }
def FnExactIncludesContextUptoSaid : Prop := fnExactIncludesContextUptoRow.holds Try.pinned (OpenSpec.upto fnExactIncludesContextSpec)

/-- 'laws.FnExactSameTerms', WHERE WHAT IT READS IS OF BULK AT MOST 1048576: true; the input reads as it did. -/
def fnExactSameTermsUptoRow : OpenClaim := { program := "ytlkhiddimplnjaa", sum := "bfea8199b4c9a9eed809ac7a9c306ddf9ae5184e9d4768ae3a4c0b2bbb1a9905", func := "loop.example/g03112/laws.FnExactSameTerms", spec := "fnExactSameTerms", unfollowed := true, recurses := true, loops := true, apart := false, narrowed := true }
def FnExactSameTermsUptoSaid : Prop := fnExactSameTermsUptoRow.holds Try.pinned (OpenSpec.upto fnExactSameTermsSpec)

end Rows
end Go.Proofs.Ytlkhiddimplnjaa
