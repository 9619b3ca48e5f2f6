/-
  No cell of these rows narrows 'for every input' (looked for: loops, veiled, ifaces, maps, wideKeys, modest, calm, conditions, laid).
  DERIVED. THE GIVEN ROWS OF THIS SEAT. 9 by the template 'for every input the law returns true; each argument reads behind the call as it read before'; 0 by the template 'total and deterministic' (their statements: YtmjfaagifijmlaaTotals.lean).
  GIVEN WITH THE SEED: the statements are not yours to turn. If you find one false, say at which input.
  Laid BY PROGRAM, IN A SANDBOX (cutbox-rows.mjs): the forced cells as the released guide's own fill.sh prints them over the translation 319bc91fe285d363… (all of the seat's roots in one cut). By AI agents, Wed Nov 11 2026. No macro, syntax, notation, axiom, sorry.
-/
import Derived.Test.YtmjfaagifijmlaaChecked
import GoSem.Claim
import GoSem.ClaimJoined
import GoSem.ClaimMapViews
import Derived.JoinedTies
import Derived.KernelRfl
namespace Go.Proofs.Ytmjfaagifijmlaa
/- THE CELL 'sum', in the pinned program and in every row, IS THE sha256 OF THE DUMP (.gsa) THAT YtmjfaagifijmlaaProg.lean LOADS. Nothing in Lean hashes anything: it is a label: what it is worth is what the hold of that sum in a sandbox is worth. -/
noncomputable def Try.pinned : Pinned := { name := "ytmjfaagifijmlaa", sum := "319bc91fe285d36351aaa41ed107ef00c9f0112083b7e8b5a1fad56bd1f55841", checked := Try.checked }
namespace Rows
def none {H : Type} : Left H := { results := [], args := [] }

/-- 'laws.FnMinimal': WHATEVER THE INPUT: true; the input reads as it did. -/
def fnMinimalSpec : ChangeSpec := { name := "fnMinimal", fn := fun _ => fun
  | [d] => { results := [.lit (.bool true)], args := [d] }
  | _ => none }
def fnMinimalRow : OpenClaim := { program := "ytmjfaagifijmlaa", sum := "319bc91fe285d36351aaa41ed107ef00c9f0112083b7e8b5a1fad56bd1f55841", func := "loop.example/g01313/laws.FnMinimal", spec := "fnMinimal", unfollowed := true, recurses := true, apart := false }
def FnMinimalSaid : Prop := fnMinimalRow.holds Try.pinned (OpenSpec.ofChange fnMinimalSpec)

/-- ITS FALSE NEIGHBOUR: 'it returns false'. Refute it at one input. -/
def fnMinimalWrong : ChangeSpec := { name := "fnMinimal", fn := fun _ => fun
  | [d] => { results := [.lit (.bool false)], args := [d] }
  | _ => none }
def FnMinimalWrongFalsely : Prop := fnMinimalRow.holds Try.pinned (OpenSpec.ofChange fnMinimalWrong)

/-- 'laws.FnCharacterSums': WHATEVER THE INPUT: true; the input reads as it did. -/
def fnCharacterSumsSpec : ChangeSpec := { name := "fnCharacterSums", fn := fun _ => fun
  | [d] => { results := [.lit (.bool true)], args := [d] }
  | _ => none }
def fnCharacterSumsRow : OpenClaim := { program := "ytmjfaagifijmlaa", sum := "319bc91fe285d36351aaa41ed107ef00c9f0112083b7e8b5a1fad56bd1f55841", func := "loop.example/g01313/laws.FnCharacterSums", spec := "fnCharacterSums", unfollowed := true, recurses := true, apart := false }
def FnCharacterSumsSaid : Prop := fnCharacterSumsRow.holds Try.pinned (OpenSpec.ofChange fnCharacterSumsSpec)

/-- ITS FALSE NEIGHBOUR: 'it returns false'. Refute it at one input. -/
def fnCharacterSumsWrong : ChangeSpec := { name := "fnCharacterSums", fn := fun _ => fun
  | [d] => { results := [.lit (.bool false)], args := [d] }
  | _ => none }
def FnCharacterSumsWrongFalsely : Prop := fnCharacterSumsRow.holds Try.pinned (OpenSpec.ofChange fnCharacterSumsWrong)

/-- 'laws.FnJacobiMany': WHATEVER THE INPUT: true; the input reads as it did. -/
def fnJacobiManySpec : ChangeSpec := { name := "fnJacobiMany", fn := fun _ => fun
  | [d] => { results := [.lit (.bool true)], args := [d] }
  | _ => none }
def fnJacobiManyRow : OpenClaim := { program := "ytmjfaagifijmlaa", sum := "319bc91fe285d36351aaa41ed107ef00c9f0112083b7e8b5a1fad56bd1f55841", func := "loop.example/g01313/laws.FnJacobiMany", spec := "fnJacobiMany", unfollowed := true, recurses := true, apart := false }
def FnJacobiManySaid : Prop := fnJacobiManyRow.holds Try.pinned (OpenSpec.ofChange fnJacobiManySpec)

/-- ITS FALSE NEIGHBOUR: 'it returns false'. Refute it at one input. -/
def fnJacobiManyWrong : ChangeSpec := { name := "fnJacobiMany", fn := fun _ => fun
  | [d] => { results := [.lit (.bool false)], args := [d] }
  | _ => none }
def FnJacobiManyWrongFalsely : Prop := fnJacobiManyRow.holds Try.pinned (OpenSpec.ofChange fnJacobiManyWrong)

/-- 'laws.FnNorms': WHATEVER THE INPUT: true; the input reads as it did. -/
def fnNormsSpec : ChangeSpec := { name := "fnNorms", fn := fun _ => fun
  | [d] => { results := [.lit (.bool true)], args := [d] }
  | _ => none }
def fnNormsRow : OpenClaim := { program := "ytmjfaagifijmlaa", sum := "319bc91fe285d36351aaa41ed107ef00c9f0112083b7e8b5a1fad56bd1f55841", func := "loop.example/g01313/laws.FnNorms", spec := "fnNorms", unfollowed := true, recurses := true, apart := false }
def FnNormsSaid : Prop := fnNormsRow.holds Try.pinned (OpenSpec.ofChange fnNormsSpec)

/-- ITS FALSE NEIGHBOUR: 'it returns false'. Refute it at one input. -/
def fnNormsWrong : ChangeSpec := { name := "fnNorms", fn := fun _ => fun
  | [d] => { results := [.lit (.bool false)], args := [d] }
  | _ => none }
def FnNormsWrongFalsely : Prop := fnNormsRow.holds Try.pinned (OpenSpec.ofChange fnNormsWrong)

/-- 'laws.FnDivision': WHATEVER THE INPUT: true; the input reads as it did. -/
def fnDivisionSpec : ChangeSpec := { name := "fnDivision", fn := fun _ => fun
  | [d] => { results := [.lit (.bool true)], args := [d] }
  | _ => none }
def fnDivisionRow : OpenClaim := { program := "ytmjfaagifijmlaa", sum := "319bc91fe285d36351aaa41ed107ef00c9f0112083b7e8b5a1fad56bd1f55841", func := "loop.example/g01313/laws.FnDivision", spec := "fnDivision", unfollowed := true, recurses := true, apart := false }
def FnDivisionSaid : Prop := fnDivisionRow.holds Try.pinned (OpenSpec.ofChange fnDivisionSpec)

/-- ITS FALSE NEIGHBOUR: 'it returns false'. Refute it at one input. -/
def fnDivisionWrong : ChangeSpec := { name := "fnDivision", fn := fun _ => fun
  | [d] => { results := [.lit (.bool false)], args := [d] }
  | _ => none }
def FnDivisionWrongFalsely : Prop := fnDivisionRow.holds Try.pinned (OpenSpec.ofChange fnDivisionWrong)

/-- 'laws.FnStickelberger': WHATEVER THE INPUT: true; the input reads as it did. -/
def fnStickelbergerSpec : ChangeSpec := { name := "fnStickelberger", fn := fun _ => fun
  | [d] => { results := [.lit (.bool true)], args := [d] }
  | _ => none }
def fnStickelbergerRow : OpenClaim := { program := "ytmjfaagifijmlaa", sum := "319bc91fe285d36351aaa41ed107ef00c9f0112083b7e8b5a1fad56bd1f55841", func := "loop.example/g01313/laws.FnStickelberger", spec := "fnStickelberger", unfollowed := true, recurses := true, apart := false }
def FnStickelbergerSaid : Prop := fnStickelbergerRow.holds Try.pinned (OpenSpec.ofChange fnStickelbergerSpec)

/-- ITS FALSE NEIGHBOUR: 'it returns false'. Refute it at one input. -/
def fnStickelbergerWrong : ChangeSpec := { name := "fnStickelberger", fn := fun _ => fun
  | [d] => { results := [.lit (.bool false)], args := [d] }
  | _ => none }
def FnStickelbergerWrongFalsely : Prop := fnStickelbergerRow.holds Try.pinned (OpenSpec.ofChange fnStickelbergerWrong)

/-- 'laws.FnJacobi': WHATEVER THE INPUT: true; the input reads as it did. -/
def fnJacobiSpec : ChangeSpec := { name := "fnJacobi", fn := fun _ => fun
  | [d] => { results := [.lit (.bool true)], args := [d] }
  | _ => none }
def fnJacobiRow : OpenClaim := { program := "ytmjfaagifijmlaa", sum := "319bc91fe285d36351aaa41ed107ef00c9f0112083b7e8b5a1fad56bd1f55841", func := "loop.example/g01313/laws.FnJacobi", spec := "fnJacobi", unfollowed := true, recurses := true, apart := false }
def FnJacobiSaid : Prop := fnJacobiRow.holds Try.pinned (OpenSpec.ofChange fnJacobiSpec)

/-- ITS FALSE NEIGHBOUR: 'it returns false'. Refute it at one input. -/
def fnJacobiWrong : ChangeSpec := { name := "fnJacobi", fn := fun _ => fun
  | [d] => { results := [.lit (.bool false)], args := [d] }
  | _ => none }
def FnJacobiWrongFalsely : Prop := fnJacobiRow.holds Try.pinned (OpenSpec.ofChange fnJacobiWrong)

/-- 'laws.FnSolutions': WHATEVER THE INPUT: true; the input reads as it did. -/
def fnSolutionsSpec : ChangeSpec := { name := "fnSolutions", fn := fun _ => fun
  | [d] => { results := [.lit (.bool true)], args := [d] }
  | _ => none }
def fnSolutionsRow : OpenClaim := { program := "ytmjfaagifijmlaa", sum := "319bc91fe285d36351aaa41ed107ef00c9f0112083b7e8b5a1fad56bd1f55841", func := "loop.example/g01313/laws.FnSolutions", spec := "fnSolutions", recurses := true, apart := false }
def FnSolutionsSaid : Prop := fnSolutionsRow.holds Try.pinned (OpenSpec.ofChange fnSolutionsSpec)

/-- ITS FALSE NEIGHBOUR: 'it returns false'. Refute it at one input. -/
def fnSolutionsWrong : ChangeSpec := { name := "fnSolutions", fn := fun _ => fun
  | [d] => { results := [.lit (.bool false)], args := [d] }
  | _ => none }
def FnSolutionsWrongFalsely : Prop := fnSolutionsRow.holds Try.pinned (OpenSpec.ofChange fnSolutionsWrong)

/-- 'laws.FnExactCountResidues': WHATEVER THE INPUT: true; the input reads as it did. -/
def fnExactCountResiduesSpec : ChangeSpec := { name := "fnExactCountResidues", fn := fun _ => fun
  | [d] => { results := [.lit (.bool true)], args := [d] }
  | _ => none }
def fnExactCountResiduesRow : OpenClaim := { program := "ytmjfaagifijmlaa", sum := "319bc91fe285d36351aaa41ed107ef00c9f0112083b7e8b5a1fad56bd1f55841", func := "loop.example/g01313/laws.FnExactCountResidues", spec := "fnExactCountResidues", unfollowed := true, recurses := true, apart := false }
def FnExactCountResiduesSaid : Prop := fnExactCountResiduesRow.holds Try.pinned (OpenSpec.ofChange fnExactCountResiduesSpec)

/-- ITS FALSE NEIGHBOUR: 'it returns false'. Refute it at one input. -/
def fnExactCountResiduesWrong : ChangeSpec := { name := "fnExactCountResidues", fn := fun _ => fun
  | [d] => { results := [.lit (.bool false)], args := [d] }
  | _ => none }
def FnExactCountResiduesWrongFalsely : Prop := fnExactCountResiduesRow.holds Try.pinned (OpenSpec.ofChange fnExactCountResiduesWrong)

/- THE SECOND FORM. 'bulk': how many values and letters a reading holds, each counted each time it is reached (what is shared counts as often as it is met; a slice's spare places count too). A statement '..UptoSaid' is the law's where the arguments, and the package variables that the reading takes, are together of bulk at most 1048576: NARROWER than '..Said'. Prove '..Said' where nothing that the law and all that it calls make is longer than what came in: it says more and counts as full. Else prove '..UptoSaid'. A law counts once. -/
mutual
def uptoBulk {H : Type} : DataW H → Nat
  | .lit (.string bytes) => bytes.length + 1
  | .lit _ => 1
  | .nil => 1
  | .ptr d => uptoBulk d + 1
  | .slice elems spare => uptoBulkAll elems + uptoBulkAll spare + 1
  | .agg parts => uptoBulkAll parts + 1
  | .iface _ d => uptoBulk d + 1
  | .map entries => uptoBulkEntries entries + 1
  | .held _ => 1
def uptoBulkAll {H : Type} : List (DataW H) → Nat
  | [] => 0
  | d :: r => uptoBulk d + uptoBulkAll r
def uptoBulkEntries {H : Type} : List (Lit × DataW H) → Nat
  | [] => 0
  | x :: r => uptoBulkEntry x + uptoBulkEntries r
def uptoBulkEntry {H : Type} : Lit × DataW H → Nat
  | (.string bytes, d) => bytes.length + uptoBulk d + 1
  | (_, d) => uptoBulk d + 1
 end
def uptoSmall : (H : Type) → List (DataW H) → Bool := fun _ ds => decide (uptoBulkAll ds ≤ 1048576)
def OpenSpec.upto (s : _root_.Go.ChangeSpec) : _root_.Go.OpenSpec := { _root_.Go.OpenSpec.ofChange s with cond := some uptoSmall }

/-- 'laws.FnMinimal', WHERE WHAT IT READS IS OF BULK AT MOST 1048576: true; the input reads as it did. -/
def fnMinimalUptoRow : OpenClaim := { program := "ytmjfaagifijmlaa", sum := "319bc91fe285d36351aaa41ed107ef00c9f0112083b7e8b5a1fad56bd1f55841", func := "loop.example/g01313/laws.FnMinimal", spec := "fnMinimal", unfollowed := true, recurses := true, apart := false, narrowed := true }
def FnMinimalUptoSaid : Prop := fnMinimalUptoRow.holds Try.pinned (OpenSpec.upto fnMinimalSpec)

/-- 'laws.FnCharacterSums', WHERE WHAT IT READS IS OF BULK AT MOST 1048576: true; the input reads as it did. -/
def fnCharacterSumsUptoRow : OpenClaim := { program := "ytmjfaagifijmlaa", sum := "319bc91fe285d36351aaa41ed107ef00c9f0112083b7e8b5a1fad56bd1f55841", func := "loop.example/g01313/laws.FnCharacterSums", spec := "fnCharacterSums", unfollowed := true, recurses := true, apart := false, narrowed := true }
def FnCharacterSumsUptoSaid : Prop := fnCharacterSumsUptoRow.holds Try.pinned (OpenSpec.upto fnCharacterSumsSpec)

/-- 'laws.FnJacobiMany', WHERE WHAT IT READS IS OF BULK AT MOST 1048576: true; the input reads as it did. -/
def fnJacobiManyUptoRow : OpenClaim := { program := "ytmjfaagifijmlaa", sum := "319bc91fe285d36351aaa41ed107ef00c9f0112083b7e8b5a1fad56bd1f55841", func := "loop.example/g01313/laws.FnJacobiMany", spec := "fnJacobiMany", unfollowed := true, recurses := true, apart := false, narrowed := true }
def FnJacobiManyUptoSaid : Prop := fnJacobiManyUptoRow.holds Try.pinned (OpenSpec.upto fnJacobiManySpec)

/-- 'laws.FnNorms', WHERE WHAT IT READS IS OF BULK AT MOST 1048576: true; the input reads as it did. -/
def fnNormsUptoRow : OpenClaim := { program := "ytmjfaagifijmlaa", sum := "319bc91fe285d36351aaa41ed107ef00c9f0112083b7e8b5a1fad56bd1f55841", func := "loop.example/g01313/laws.FnNorms", spec := "fnNorms", unfollowed := true, recurses := true, apart := false, narrowed := true }
def FnNormsUptoSaid : Prop := fnNormsUptoRow.holds Try.pinned (OpenSpec.upto fnNormsSpec)

/-- 'laws.FnDivision', WHERE WHAT IT READS IS OF BULK AT MOST 1048576: true; the input reads as it did. -/
def fnDivisionUptoRow : OpenClaim := { program := "ytmjfaagifijmlaa", sum := "319bc91fe285d36351aaa41ed107ef00c9f0112083b7e8b5a1fad56bd1f55841", func := "loop.example/g01313/laws.FnDivision", spec := "fnDivision", unfollowed := true, recurses := true, apart := false, narrowed := true }
def FnDivisionUptoSaid : Prop := fnDivisionUptoRow.holds Try.pinned (OpenSpec.upto fnDivisionSpec)

/-- 'laws.FnStickelberger', WHERE WHAT IT READS IS OF BULK AT MOST 1048576: true; the input reads as it did. -/
def fnStickelbergerUptoRow : OpenClaim := { program := "ytmjfaagifijmlaa", sum := "319bc91fe285d36351aaa41ed107ef00c9f0112083b7e8b5a1fad56bd1f55841", func := "loop.example/g01313/laws.FnStickelberger", spec := "fnStickelberger", unfollowed := true, recurses := true, apart := false, narrowed := true }
def FnStickelbergerUptoSaid : Prop := fnStickelbergerUptoRow.holds Try.pinned (OpenSpec.upto fnStickelbergerSpec)

/-- 'laws.FnJacobi', WHERE WHAT IT READS IS OF BULK AT MOST 1048576: true; the input reads as it did. -/
def fnJacobiUptoRow : OpenClaim := { program := "ytmjfaagifijmlaa", sum := "319bc91fe285d36351aaa41ed107ef00c9f0112083b7e8b5a1fad56bd1f55841", func := "loop.example/g01313/laws.FnJacobi", spec := "fnJacobi", unfollowed := true, recurses := true, apart := false, narrowed := true }
def FnJacobiUptoSaid : Prop := fnJacobiUptoRow.holds Try.pinned (OpenSpec.upto fnJacobiSpec)

/-- 'laws.FnSolutions', WHERE WHAT IT READS IS OF BULK AT MOST 1048576: true; the input reads as it did. -/
def fnSolutionsUptoRow : OpenClaim := { program := "ytmjfaagifijmlaa", sum := "319bc91fe285d36351aaa41ed107ef00c9f0112083b7e8b5a1fad56bd1f55841", func := "loop.example/g01313/laws.FnSolutions", spec := "fnSolutions", recurses := true, apart := false, narrowed := true }
def FnSolutionsUptoSaid : Prop := fnSolutionsUptoRow.holds Try.pinned (OpenSpec.upto fnSolutionsSpec)

/-- 'laws.FnExactCountResidues', WHERE WHAT IT READS IS OF BULK AT MOST 1048576: true; the input reads as it did. -/
def fnExactCountResiduesUptoRow : OpenClaim := { program := "ytmjfaagifijmlaa", sum := "319bc91fe285d36351aaa41ed107ef00c9f0112083b7e8b5a1fad56bd1f55841", func := "loop.example/g01313/laws.FnExactCountResidues", spec := "fnExactCountResidues", unfollowed := true, recurses := true, apart := false, narrowed := true }
def FnExactCountResiduesUptoSaid : Prop := fnExactCountResiduesUptoRow.holds Try.pinned (OpenSpec.upto fnExactCountResiduesSpec)

end Rows
end Go.Proofs.Ytmjfaagifijmlaa
