/-
  No cell of these rows narrows 'for every input' (looked for: loops, veiled, ifaces, maps, wideKeys, modest, calm, conditions, laid).
  DERIVED. THE GIVEN ROWS OF THIS SEAT. 6 by the template 'for every input the law returns true; each argument reads behind the call as it read before'; 0 by the template 'total and deterministic' (their statements: YtfblaicifdgfiaaTotals.lean).
  GIVEN WITH THE SEED: the statements are not yours to turn. If you find one false, say at which input.
  Laid BY PROGRAM, IN A SANDBOX (cutbox-rows.mjs): the forced cells as the released guide's own fill.sh prints them over the translation 854cf76ef57c68cf… (all of the seat's roots in one cut). By AI agents, Wed Nov 11 2026. No macro, syntax, notation, axiom, sorry.
-/
import Derived.Test.YtfblaicifdgfiaaChecked
import GoSem.Claim
import GoSem.ClaimJoined
import GoSem.ClaimMapViews
import Derived.JoinedTies
import Derived.KernelRfl
namespace Go.Proofs.Ytfblaicifdgfiaa
/- THE CELL 'sum', in the pinned program and in every row, IS THE sha256 OF THE DUMP (.gsa) THAT YtfblaicifdgfiaaProg.lean LOADS. Nothing in Lean hashes anything: it is a label: what it is worth is what the hold of that sum in a sandbox is worth. -/
noncomputable def Try.pinned : Pinned := { name := "ytfblaicifdgfiaa", sum := "854cf76ef57c68cf8ae939e5094b3bcf90b4092b688892a5cb20c3ce8a468d82", checked := Try.checked }
namespace Rows
def none {H : Type} : Left H := { results := [], args := [] }

/-- 'lacquerlaw10.SubframeVerbatim': WHATEVER THE INPUT: true; the input reads as it did. -/
def subframeVerbatimSpec : ChangeSpec := { name := "subframeVerbatim", fn := fun _ => fun
  | [d1, d2] => { results := [.lit (.bool true)], args := [d1, d2] }
  | _ => none }
def subframeVerbatimRow : OpenClaim := { program := "ytfblaicifdgfiaa", sum := "854cf76ef57c68cf8ae939e5094b3bcf90b4092b688892a5cb20c3ce8a468d82", func := "lacquer/lacquerlaw10.SubframeVerbatim", spec := "subframeVerbatim", unfollowed := true, recurses := true, apart := false }
def SubframeVerbatimSaid : Prop := subframeVerbatimRow.holds Try.pinned (OpenSpec.ofChange subframeVerbatimSpec)

/-- ITS FALSE NEIGHBOUR: 'it returns false'. Refute it at one input. -/
def subframeVerbatimWrong : ChangeSpec := { name := "subframeVerbatim", fn := fun _ => fun
  | [d1, d2] => { results := [.lit (.bool false)], args := [d1, d2] }
  | _ => none }
def SubframeVerbatimWrongFalsely : Prop := subframeVerbatimRow.holds Try.pinned (OpenSpec.ofChange subframeVerbatimWrong)

/-- 'lacquerlaw10.SubframeBack': WHATEVER THE INPUT: true; the input reads as it did. -/
def subframeBackSpec : ChangeSpec := { name := "subframeBack", fn := fun _ => fun
  | [d1, d2, d3] => { results := [.lit (.bool true)], args := [d1, d2, d3] }
  | _ => none }
def subframeBackRow : OpenClaim := { program := "ytfblaicifdgfiaa", sum := "854cf76ef57c68cf8ae939e5094b3bcf90b4092b688892a5cb20c3ce8a468d82", func := "lacquer/lacquerlaw10.SubframeBack", spec := "subframeBack", unfollowed := true, recurses := true, apart := false }
def SubframeBackSaid : Prop := subframeBackRow.holds Try.pinned (OpenSpec.ofChange subframeBackSpec)

/-- ITS FALSE NEIGHBOUR: 'it returns false'. Refute it at one input. -/
def subframeBackWrong : ChangeSpec := { name := "subframeBack", fn := fun _ => fun
  | [d1, d2, d3] => { results := [.lit (.bool false)], args := [d1, d2, d3] }
  | _ => none }
def SubframeBackWrongFalsely : Prop := subframeBackRow.holds Try.pinned (OpenSpec.ofChange subframeBackWrong)

/-- 'lacquerlaw07.AiffParses': WHATEVER THE INPUT: true; the input reads as it did. -/
def aiffParsesSpec : ChangeSpec := { name := "aiffParses", fn := fun _ => fun
  | [d] => { results := [.lit (.bool true)], args := [d] }
  | _ => none }
def aiffParsesRow : OpenClaim := { program := "ytfblaicifdgfiaa", sum := "854cf76ef57c68cf8ae939e5094b3bcf90b4092b688892a5cb20c3ce8a468d82", func := "lacquer/lacquerlaw07.AiffParses", spec := "aiffParses", inPlace := ["internal/abi.NoEscape", "internal/bytealg.MakeNoZero"], unfollowed := true, recurses := true, apart := false }
def AiffParsesSaid : Prop := aiffParsesRow.holds Try.pinned (OpenSpec.ofChange aiffParsesSpec)

/-- ITS FALSE NEIGHBOUR: 'it returns false'. Refute it at one input. -/
def aiffParsesWrong : ChangeSpec := { name := "aiffParses", fn := fun _ => fun
  | [d] => { results := [.lit (.bool false)], args := [d] }
  | _ => none }
def AiffParsesWrongFalsely : Prop := aiffParsesRow.holds Try.pinned (OpenSpec.ofChange aiffParsesWrong)

/-- 'lacquerlaw07.AiffBuilds': WHATEVER THE INPUT: true; the input reads as it did. -/
def aiffBuildsSpec : ChangeSpec := { name := "aiffBuilds", fn := fun _ => fun
  | [d1, d2] => { results := [.lit (.bool true)], args := [d1, d2] }
  | _ => none }
def aiffBuildsRow : OpenClaim := { program := "ytfblaicifdgfiaa", sum := "854cf76ef57c68cf8ae939e5094b3bcf90b4092b688892a5cb20c3ce8a468d82", func := "lacquer/lacquerlaw07.AiffBuilds", spec := "aiffBuilds", inPlace := ["internal/abi.NoEscape", "internal/bytealg.MakeNoZero"], unfollowed := true, recurses := true, apart := false }
def AiffBuildsSaid : Prop := aiffBuildsRow.holds Try.pinned (OpenSpec.ofChange aiffBuildsSpec)

/-- ITS FALSE NEIGHBOUR: 'it returns false'. Refute it at one input. -/
def aiffBuildsWrong : ChangeSpec := { name := "aiffBuilds", fn := fun _ => fun
  | [d1, d2] => { results := [.lit (.bool false)], args := [d1, d2] }
  | _ => none }
def AiffBuildsWrongFalsely : Prop := aiffBuildsRow.holds Try.pinned (OpenSpec.ofChange aiffBuildsWrong)

/-- 'lacquerlaw07.AiffBack': WHATEVER THE INPUT: true; the input reads as it did. -/
def aiffBackSpec : ChangeSpec := { name := "aiffBack", fn := fun _ => fun
  | [d] => { results := [.lit (.bool true)], args := [d] }
  | _ => none }
def aiffBackRow : OpenClaim := { program := "ytfblaicifdgfiaa", sum := "854cf76ef57c68cf8ae939e5094b3bcf90b4092b688892a5cb20c3ce8a468d82", func := "lacquer/lacquerlaw07.AiffBack", spec := "aiffBack", inPlace := ["internal/abi.NoEscape", "internal/bytealg.MakeNoZero"], unfollowed := true, recurses := true, apart := false }
def AiffBackSaid : Prop := aiffBackRow.holds Try.pinned (OpenSpec.ofChange aiffBackSpec)

/-- ITS FALSE NEIGHBOUR: 'it returns false'. Refute it at one input. -/
def aiffBackWrong : ChangeSpec := { name := "aiffBack", fn := fun _ => fun
  | [d] => { results := [.lit (.bool false)], args := [d] }
  | _ => none }
def AiffBackWrongFalsely : Prop := aiffBackRow.holds Try.pinned (OpenSpec.ofChange aiffBackWrong)

/-- 'lacquerlaw07.AiffPlain': WHATEVER THE INPUT: true; the input reads as it did. -/
def aiffPlainSpec : ChangeSpec := { name := "aiffPlain", fn := fun _ => fun
  | [d] => { results := [.lit (.bool true)], args := [d] }
  | _ => none }
def aiffPlainRow : OpenClaim := { program := "ytfblaicifdgfiaa", sum := "854cf76ef57c68cf8ae939e5094b3bcf90b4092b688892a5cb20c3ce8a468d82", func := "lacquer/lacquerlaw07.AiffPlain", spec := "aiffPlain", inPlace := ["internal/abi.NoEscape", "internal/bytealg.MakeNoZero"], unfollowed := true, recurses := true, apart := false }
def AiffPlainSaid : Prop := aiffPlainRow.holds Try.pinned (OpenSpec.ofChange aiffPlainSpec)

/-- ITS FALSE NEIGHBOUR: 'it returns false'. Refute it at one input. -/
def aiffPlainWrong : ChangeSpec := { name := "aiffPlain", fn := fun _ => fun
  | [d] => { results := [.lit (.bool false)], args := [d] }
  | _ => none }
def AiffPlainWrongFalsely : Prop := aiffPlainRow.holds Try.pinned (OpenSpec.ofChange aiffPlainWrong)

/- THE SECOND FORM. 'bulk': how many values and letters a reading holds, each counted each time it is reached (what is shared counts as often as it is met; a slice's spare places count too). A statement '..UptoSaid' is the law's where the arguments, and the package variables that the reading takes, are together of bulk at most 1048576: NARROWER than '..Said'. Prove '..Said' where nothing that the law and all that it calls make is longer than what came in: it says more and counts as full. Else prove '..UptoSaid'. A law counts once. -/
mutual
def uptoBulk {H : Type} : DataW H → Nat
  | .lit (.string bytes) => bytes.length + 1
  | .lit _ => 1
  | .nil => 1
  | .ptr d => uptoBulk d + 1
  | .slice elems spare => uptoBulkAll elems + uptoBulkAll spare + 1
  | .agg parts => uptoBulkAll parts + 1
  | .iface _ d => uptoBulk d + 1
  | .map entries => uptoBulkEntries entries + 1
  | .held _ => 1
def uptoBulkAll {H : Type} : List (DataW H) → Nat
  | [] => 0
  | d :: r => uptoBulk d + uptoBulkAll r
def uptoBulkEntries {H : Type} : List (Lit × DataW H) → Nat
  | [] => 0
  | x :: r => uptoBulkEntry x + uptoBulkEntries r
def uptoBulkEntry {H : Type} : Lit × DataW H → Nat
  | (.string bytes, d) => bytes.length + uptoBulk d + 1
  | (_, d) => uptoBulk d + 1
 end
def uptoSmall : (H : Type) → List (DataW H) → Bool := fun _ ds => decide (uptoBulkAll ds ≤ 1048576)
def OpenSpec.upto (s : _root_.Go.ChangeSpec) : _root_.Go.OpenSpec := { _root_.Go.OpenSpec.ofChange s with cond := some uptoSmall }

/-- 'lacquerlaw10.SubframeVerbatim', WHERE WHAT IT READS IS OF BULK AT MOST 1048576: true; the input reads as it did. -/
def subframeVerbatimUptoRow : OpenClaim := { program := "ytfblaicifdgfiaa", sum := "854cf76ef57c68cf8ae939e5094b3bcf90b4092b688892a5cb20c3ce8a468d82", func := "lacquer/lacquerlaw10.SubframeVerbatim", spec := "subframeVerbatim", unfollowed := true, recurses := true, apart := false, narrowed := true }
def SubframeVerbatimUptoSaid : Prop := subframeVerbatimUptoRow.holds Try.pinned (OpenSpec.upto subframeVerbatimSpec)

/-- 'lacquerlaw10.SubframeBack', WHERE WHAT IT READS IS OF BULK AT MOST 1048576: true; the input reads as it did. -/
def subframeBackUptoRow : OpenClaim := { program := "ytfblaicifdgfiaa", sum := "854cf76ef57c68cf8ae939e5094b3bcf90b4092b688892a5cb20c3ce8a468d82", func := "lacquer/lacquerlaw10.SubframeBack", spec := "subframeBack", unfollowed := true, recurses := true, apart := false, narrowed := true }
def SubframeBackUptoSaid : Prop := subframeBackUptoRow.holds Try.pinned (OpenSpec.upto subframeBackSpec)

/-- 'lacquerlaw07.AiffParses', WHERE WHAT IT READS IS OF BULK AT MOST 1048576: true; the input reads as it did. -/
def aiffParsesUptoRow : OpenClaim := { program := "ytfblaicifdgfiaa", sum := "854cf76ef57c68cf8ae939e5094b3bcf90b4092b688892a5cb20c3ce8a468d82", func := "lacquer/lacquerlaw07.AiffParses", spec := "aiffParses", inPlace := ["internal/abi.NoEscape", "internal/bytealg.MakeNoZero"], unfollowed := true, recurses := true, apart := false, narrowed := true }
def AiffParsesUptoSaid : Prop := aiffParsesUptoRow.holds Try.pinned (OpenSpec.upto aiffParsesSpec)

/-- 'lacquerlaw07.AiffBuilds', WHERE WHAT IT READS IS OF BULK AT MOST 1048576: true; the input reads as it did. -/
def aiffBuildsUptoRow : OpenClaim := { program := "ytfblaicifdgfiaa", sum := "854cf76ef57c68cf8ae939e5094b3bcf90b4092b688892a5cb20c3ce8a468d82", func := "lacquer/lacquerlaw07.AiffBuilds", spec := "aiffBuilds", inPlace := ["internal/abi.NoEscape", "internal/bytealg.MakeNoZero"], unfollowed := true, recurses := true, apart := false, narrowed := true }
def AiffBuildsUptoSaid : Prop := aiffBuildsUptoRow.holds Try.pinned (OpenSpec.upto aiffBuildsSpec)

/-- 'lacquerlaw07.AiffBack', WHERE WHAT IT READS IS OF BULK AT MOST 1048576: true; the input reads as it did. -/
def aiffBackUptoRow : OpenClaim := { program := "ytfblaicifdgfiaa", sum := "854cf76ef57c68cf8ae939e5094b3bcf90b4092b688892a5cb20c3ce8a468d82", func := "lacquer/lacquerlaw07.AiffBack", spec := "aiffBack", inPlace := ["internal/abi.NoEscape", "internal/bytealg.MakeNoZero"], unfollowed := true, recurses := true, apart := false, narrowed := true }
def AiffBackUptoSaid : Prop := aiffBackUptoRow.holds Try.pinned (OpenSpec.upto aiffBackSpec)

/-- 'lacquerlaw07.AiffPlain', WHERE WHAT IT READS IS OF BULK AT MOST 1048576: true; the input reads as it did. -/
def aiffPlainUptoRow : OpenClaim := { program := "ytfblaicifdgfiaa", sum := "854cf76ef57c68cf8ae939e5094b3bcf90b4092b688892a5cb20c3ce8a468d82", func := "lacquer/lacquerlaw07.AiffPlain", spec := "aiffPlain", inPlace := ["internal/abi.NoEscape", "internal/bytealg.MakeNoZero"], unfollowed := true, recurses := true, apart := false, narrowed := true }
def AiffPlainUptoSaid : Prop := aiffPlainUptoRow.holds Try.pinned (OpenSpec.upto aiffPlainSpec)

end Rows
end Go.Proofs.Ytfblaicifdgfiaa
