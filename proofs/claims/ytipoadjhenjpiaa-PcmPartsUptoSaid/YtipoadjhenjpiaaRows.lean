/-
  No cell of these rows narrows 'for every input' (looked for: loops, veiled, ifaces, maps, wideKeys, modest, calm, conditions, laid).
  DERIVED. THE GIVEN ROWS OF THIS SEAT. 10 by the template 'for every input the law returns true; each argument reads behind the call as it read before'; 0 by the template 'total and deterministic' (their statements: YtipoadjhenjpiaaTotals.lean).
  GIVEN WITH THE SEED: the statements are not yours to turn. If you find one false, say at which input.
  Laid BY PROGRAM, IN A SANDBOX (cutbox-rows.mjs): the forced cells as the released guide's own fill.sh prints them over the translation be98abbe0a8a7406… (all of the seat's roots in one cut). By AI agents, Wed Nov 11 2026. No macro, syntax, notation, axiom, sorry.
-/
import Derived.Test.YtipoadjhenjpiaaChecked
import GoSem.Claim
import GoSem.ClaimJoined
import GoSem.ClaimMapViews
import Derived.JoinedTies
import Derived.KernelRfl
namespace Go.Proofs.Ytipoadjhenjpiaa
/- THE CELL 'sum', in the pinned program and in every row, IS THE sha256 OF THE DUMP (.gsa) THAT YtipoadjhenjpiaaProg.lean LOADS. Nothing in Lean hashes anything: it is a label: what it is worth is what the hold of that sum in a sandbox is worth. -/
noncomputable def Try.pinned : Pinned := { name := "ytipoadjhenjpiaa", sum := "be98abbe0a8a74063195b33db4609a4b65f6de0bb6af0a9458d27411878b839e", checked := Try.checked }
namespace Rows
def none {H : Type} : Left H := { results := [], args := [] }

/-- 'lacquerlaw04.DigestAll': WHATEVER THE INPUT: true; the input reads as it did. -/
def digestAllSpec : ChangeSpec := { name := "digestAll", fn := fun _ => fun
  | [d] => { results := [.lit (.bool true)], args := [d] }
  | _ => none }
def digestAllRow : OpenClaim := { program := "ytipoadjhenjpiaa", sum := "be98abbe0a8a74063195b33db4609a4b65f6de0bb6af0a9458d27411878b839e", func := "lacquer/lacquerlaw04.DigestAll", spec := "digestAll", apart := false }
def DigestAllSaid : Prop := digestAllRow.holds Try.pinned (OpenSpec.ofChange digestAllSpec)

/-- ITS FALSE NEIGHBOUR: 'it returns false'. Refute it at one input. -/
def digestAllWrong : ChangeSpec := { name := "digestAll", fn := fun _ => fun
  | [d] => { results := [.lit (.bool false)], args := [d] }
  | _ => none }
def DigestAllWrongFalsely : Prop := digestAllRow.holds Try.pinned (OpenSpec.ofChange digestAllWrong)

/-- 'lacquerlaw04.DigestCuts': WHATEVER THE INPUT: true; the input reads as it did. -/
def digestCutsSpec : ChangeSpec := { name := "digestCuts", fn := fun _ => fun
  | [d1, d2] => { results := [.lit (.bool true)], args := [d1, d2] }
  | _ => none }
def digestCutsRow : OpenClaim := { program := "ytipoadjhenjpiaa", sum := "be98abbe0a8a74063195b33db4609a4b65f6de0bb6af0a9458d27411878b839e", func := "lacquer/lacquerlaw04.DigestCuts", spec := "digestCuts", apart := false }
def DigestCutsSaid : Prop := digestCutsRow.holds Try.pinned (OpenSpec.ofChange digestCutsSpec)

/-- ITS FALSE NEIGHBOUR: 'it returns false'. Refute it at one input. -/
def digestCutsWrong : ChangeSpec := { name := "digestCuts", fn := fun _ => fun
  | [d1, d2] => { results := [.lit (.bool false)], args := [d1, d2] }
  | _ => none }
def DigestCutsWrongFalsely : Prop := digestCutsRow.holds Try.pinned (OpenSpec.ofChange digestCutsWrong)

/-- 'lacquerlaw04.DigestPieces': WHATEVER THE INPUT: true; the input reads as it did. -/
def digestPiecesSpec : ChangeSpec := { name := "digestPieces", fn := fun _ => fun
  | [d] => { results := [.lit (.bool true)], args := [d] }
  | _ => none }
def digestPiecesRow : OpenClaim := { program := "ytipoadjhenjpiaa", sum := "be98abbe0a8a74063195b33db4609a4b65f6de0bb6af0a9458d27411878b839e", func := "lacquer/lacquerlaw04.DigestPieces", spec := "digestPieces", apart := false }
def DigestPiecesSaid : Prop := digestPiecesRow.holds Try.pinned (OpenSpec.ofChange digestPiecesSpec)

/-- ITS FALSE NEIGHBOUR: 'it returns false'. Refute it at one input. -/
def digestPiecesWrong : ChangeSpec := { name := "digestPieces", fn := fun _ => fun
  | [d] => { results := [.lit (.bool false)], args := [d] }
  | _ => none }
def DigestPiecesWrongFalsely : Prop := digestPiecesRow.holds Try.pinned (OpenSpec.ofChange digestPiecesWrong)

/-- 'lacquerlaw04.DigestNone': WHATEVER THE INPUT: true; the input reads as it did. -/
def digestNoneSpec : ChangeSpec := { name := "digestNone", fn := fun _ => fun
  | [d] => { results := [.lit (.bool true)], args := [d] }
  | _ => none }
def digestNoneRow : OpenClaim := { program := "ytipoadjhenjpiaa", sum := "be98abbe0a8a74063195b33db4609a4b65f6de0bb6af0a9458d27411878b839e", func := "lacquer/lacquerlaw04.DigestNone", spec := "digestNone", apart := false }
def DigestNoneSaid : Prop := digestNoneRow.holds Try.pinned (OpenSpec.ofChange digestNoneSpec)

/-- ITS FALSE NEIGHBOUR: 'it returns false'. Refute it at one input. -/
def digestNoneWrong : ChangeSpec := { name := "digestNone", fn := fun _ => fun
  | [d] => { results := [.lit (.bool false)], args := [d] }
  | _ => none }
def DigestNoneWrongFalsely : Prop := digestNoneRow.holds Try.pinned (OpenSpec.ofChange digestNoneWrong)

/-- 'lacquerlaw05.PcmChecks': WHATEVER THE INPUT: true; the input reads as it did. -/
def pcmChecksSpec : ChangeSpec := { name := "pcmChecks", fn := fun _ => fun
  | [d1, d2] => { results := [.lit (.bool true)], args := [d1, d2] }
  | _ => none }
def pcmChecksRow : OpenClaim := { program := "ytipoadjhenjpiaa", sum := "be98abbe0a8a74063195b33db4609a4b65f6de0bb6af0a9458d27411878b839e", func := "lacquer/lacquerlaw05.PcmChecks", spec := "pcmChecks", unfollowed := true, recurses := true, apart := false }
def PcmChecksSaid : Prop := pcmChecksRow.holds Try.pinned (OpenSpec.ofChange pcmChecksSpec)

/-- ITS FALSE NEIGHBOUR: 'it returns false'. Refute it at one input. -/
def pcmChecksWrong : ChangeSpec := { name := "pcmChecks", fn := fun _ => fun
  | [d1, d2] => { results := [.lit (.bool false)], args := [d1, d2] }
  | _ => none }
def PcmChecksWrongFalsely : Prop := pcmChecksRow.holds Try.pinned (OpenSpec.ofChange pcmChecksWrong)

/-- 'lacquerlaw05.PcmUnpacks': WHATEVER THE INPUT: true; the input reads as it did. -/
def pcmUnpacksSpec : ChangeSpec := { name := "pcmUnpacks", fn := fun _ => fun
  | [d1, d2, d3] => { results := [.lit (.bool true)], args := [d1, d2, d3] }
  | _ => none }
def pcmUnpacksRow : OpenClaim := { program := "ytipoadjhenjpiaa", sum := "be98abbe0a8a74063195b33db4609a4b65f6de0bb6af0a9458d27411878b839e", func := "lacquer/lacquerlaw05.PcmUnpacks", spec := "pcmUnpacks", unfollowed := true, recurses := true, apart := false }
def PcmUnpacksSaid : Prop := pcmUnpacksRow.holds Try.pinned (OpenSpec.ofChange pcmUnpacksSpec)

/-- ITS FALSE NEIGHBOUR: 'it returns false'. Refute it at one input. -/
def pcmUnpacksWrong : ChangeSpec := { name := "pcmUnpacks", fn := fun _ => fun
  | [d1, d2, d3] => { results := [.lit (.bool false)], args := [d1, d2, d3] }
  | _ => none }
def PcmUnpacksWrongFalsely : Prop := pcmUnpacksRow.holds Try.pinned (OpenSpec.ofChange pcmUnpacksWrong)

/-- 'lacquerlaw05.PcmBack': WHATEVER THE INPUT: true; the input reads as it did. -/
def pcmBackSpec : ChangeSpec := { name := "pcmBack", fn := fun _ => fun
  | [d1, d2, d3] => { results := [.lit (.bool true)], args := [d1, d2, d3] }
  | _ => none }
def pcmBackRow : OpenClaim := { program := "ytipoadjhenjpiaa", sum := "be98abbe0a8a74063195b33db4609a4b65f6de0bb6af0a9458d27411878b839e", func := "lacquer/lacquerlaw05.PcmBack", spec := "pcmBack", unfollowed := true, recurses := true, apart := false }
def PcmBackSaid : Prop := pcmBackRow.holds Try.pinned (OpenSpec.ofChange pcmBackSpec)

/-- ITS FALSE NEIGHBOUR: 'it returns false'. Refute it at one input. -/
def pcmBackWrong : ChangeSpec := { name := "pcmBack", fn := fun _ => fun
  | [d1, d2, d3] => { results := [.lit (.bool false)], args := [d1, d2, d3] }
  | _ => none }
def PcmBackWrongFalsely : Prop := pcmBackRow.holds Try.pinned (OpenSpec.ofChange pcmBackWrong)

/-- 'lacquerlaw05.PcmCuts': WHATEVER THE INPUT: true; the input reads as it did. -/
def pcmCutsSpec : ChangeSpec := { name := "pcmCuts", fn := fun _ => fun
  | [d1, d2, d3] => { results := [.lit (.bool true)], args := [d1, d2, d3] }
  | _ => none }
def pcmCutsRow : OpenClaim := { program := "ytipoadjhenjpiaa", sum := "be98abbe0a8a74063195b33db4609a4b65f6de0bb6af0a9458d27411878b839e", func := "lacquer/lacquerlaw05.PcmCuts", spec := "pcmCuts", unfollowed := true, recurses := true, apart := false }
def PcmCutsSaid : Prop := pcmCutsRow.holds Try.pinned (OpenSpec.ofChange pcmCutsSpec)

/-- ITS FALSE NEIGHBOUR: 'it returns false'. Refute it at one input. -/
def pcmCutsWrong : ChangeSpec := { name := "pcmCuts", fn := fun _ => fun
  | [d1, d2, d3] => { results := [.lit (.bool false)], args := [d1, d2, d3] }
  | _ => none }
def PcmCutsWrongFalsely : Prop := pcmCutsRow.holds Try.pinned (OpenSpec.ofChange pcmCutsWrong)

/-- 'lacquerlaw05.PcmParts': WHATEVER THE INPUT: true; the input reads as it did. -/
def pcmPartsSpec : ChangeSpec := { name := "pcmParts", fn := fun _ => fun
  | [d1, d2, d3] => { results := [.lit (.bool true)], args := [d1, d2, d3] }
  | _ => none }
def pcmPartsRow : OpenClaim := { program := "ytipoadjhenjpiaa", sum := "be98abbe0a8a74063195b33db4609a4b65f6de0bb6af0a9458d27411878b839e", func := "lacquer/lacquerlaw05.PcmParts", spec := "pcmParts", unfollowed := true, recurses := true, apart := false }
def PcmPartsSaid : Prop := pcmPartsRow.holds Try.pinned (OpenSpec.ofChange pcmPartsSpec)

/-- ITS FALSE NEIGHBOUR: 'it returns false'. Refute it at one input. -/
def pcmPartsWrong : ChangeSpec := { name := "pcmParts", fn := fun _ => fun
  | [d1, d2, d3] => { results := [.lit (.bool false)], args := [d1, d2, d3] }
  | _ => none }
def PcmPartsWrongFalsely : Prop := pcmPartsRow.holds Try.pinned (OpenSpec.ofChange pcmPartsWrong)

/-- 'lacquerlaw05.PcmPacks': WHATEVER THE INPUT: true; the input reads as it did. -/
def pcmPacksSpec : ChangeSpec := { name := "pcmPacks", fn := fun _ => fun
  | [d1, d2] => { results := [.lit (.bool true)], args := [d1, d2] }
  | _ => none }
def pcmPacksRow : OpenClaim := { program := "ytipoadjhenjpiaa", sum := "be98abbe0a8a74063195b33db4609a4b65f6de0bb6af0a9458d27411878b839e", func := "lacquer/lacquerlaw05.PcmPacks", spec := "pcmPacks", unfollowed := true, recurses := true, apart := false }
def PcmPacksSaid : Prop := pcmPacksRow.holds Try.pinned (OpenSpec.ofChange pcmPacksSpec)

/-- ITS FALSE NEIGHBOUR: 'it returns false'. Refute it at one input. -/
def pcmPacksWrong : ChangeSpec := { name := "pcmPacks", fn := fun _ => fun
  | [d1, d2] => { results := [.lit (.bool false)], args := [d1, d2] }
  | _ => none }
def PcmPacksWrongFalsely : Prop := pcmPacksRow.holds Try.pinned (OpenSpec.ofChange pcmPacksWrong)

/- THE SECOND FORM. 'bulk': how many values and letters a reading holds, each counted each time it is reached (what is shared counts as often as it is met; a slice's spare places count too). A statement '..UptoSaid' is the law's where the arguments, and the package variables that the reading takes, are together of bulk at most 1048576: NARROWER than '..Said'. Prove '..Said' where nothing that the law and all that it calls make is longer than what came in: it says more and counts as full. Else prove '..UptoSaid'. A law counts once. -/
mutual
def uptoBulk {H : Type} : DataW H → Nat
  | .lit (.string bytes) => bytes.length + 1
  | .lit _ => 1
  | .nil => 1
  | .ptr d => uptoBulk d + 1
  | .slice elems spare => uptoBulkAll elems + uptoBulkAll spare + 1
  | .agg parts => uptoBulkAll parts + 1
  | .iface _ d => uptoBulk d + 1
  | .map entries => uptoBulkEntries entries + 1
  | .held _ => 1
def uptoBulkAll {H : Type} : List (DataW H) → Nat
  | [] => 0
  | d :: r => uptoBulk d + uptoBulkAll r
def uptoBulkEntries {H : Type} : List (Lit × DataW H) → Nat
  | [] => 0
  | x :: r => uptoBulkEntry x + uptoBulkEntries r
def uptoBulkEntry {H : Type} : Lit × DataW H → Nat
  | (.string bytes, d) => bytes.length + uptoBulk d + 1
  | (_, d) => uptoBulk d + 1
 end
def uptoSmall : (H : Type) → List (DataW H) → Bool := fun _ ds => decide (uptoBulkAll ds ≤ 1048576)
def OpenSpec.upto (s : _root_.Go.ChangeSpec) : _root_.Go.OpenSpec := { _root_.Go.OpenSpec.ofChange s with cond := some uptoSmall }

/-- 'lacquerlaw04.DigestAll', WHERE WHAT IT READS IS OF BULK AT MOST 1048576: true; the input reads as it did. -/
def digestAllUptoRow : OpenClaim := { program := "ytipoadjhenjpiaa", sum := "be98abbe0a8a74063195b33db4609a4b65f6de0bb6af0a9458d27411878b839e", func := "lacquer/lacquerlaw04.DigestAll", spec := "digestAll", apart := false, narrowed := true }
def DigestAllUptoSaid : Prop := digestAllUptoRow.holds Try.pinned (OpenSpec.upto digestAllSpec)

/-- 'lacquerlaw04.DigestCuts', WHERE WHAT IT READS IS OF BULK AT MOST 1048576: true; the input reads as it did. -/
def digestCutsUptoRow : OpenClaim := { program := "ytipoadjhenjpiaa", sum := "be98abbe0a8a74063195b33db4609a4b65f6de0bb6af0a9458d27411878b839e", func := "lacquer/lacquerlaw04.DigestCuts", spec := "digestCuts", apart := false, narrowed := true }
def DigestCutsUptoSaid : Prop := digestCutsUptoRow.holds Try.pinned (OpenSpec.upto digestCutsSpec)

/-- 'lacquerlaw04.DigestPieces', WHERE WHAT IT READS IS OF BULK AT MOST 1048576: true; the input reads as it did. -/
def digestPiecesUptoRow : OpenClaim := { program := "ytipoadjhenjpiaa", sum := "be98abbe0a8a74063195b33db4609a4b65f6de0bb6af0a9458d27411878b839e", func := "lacquer/lacquerlaw04.DigestPieces", spec := "digestPieces", apart := false, narrowed := true }
def DigestPiecesUptoSaid : Prop := digestPiecesUptoRow.holds Try.pinned (OpenSpec.upto digestPiecesSpec)

/-- 'lacquerlaw04.DigestNone', WHERE WHAT IT READS IS OF BULK AT MOST 1048576: true; the input reads as it did. -/
def digestNoneUptoRow : OpenClaim := { program := "ytipoadjhenjpiaa", sum := "be98abbe0a8a74063195b33db4609a4b65f6de0bb6af0a9458d27411878b839e", func := "lacquer/lacquerlaw04.DigestNone", spec := "digestNone", apart := false, narrowed := true }
def DigestNoneUptoSaid : Prop := digestNoneUptoRow.holds Try.pinned (OpenSpec.upto digestNoneSpec)

/-- 'lacquerlaw05.PcmChecks', WHERE WHAT IT READS IS OF BULK AT MOST 1048576: true; the input reads as it did. -/
def pcmChecksUptoRow : OpenClaim := { program := "ytipoadjhenjpiaa", sum := "be98abbe0a8a74063195b33db4609a4b65f6de0bb6af0a9458d27411878b839e", func := "lacquer/lacquerlaw05.PcmChecks", spec := "pcmChecks", unfollowed := true, recurses := true, apart := false, narrowed := true }
def PcmChecksUptoSaid : Prop := pcmChecksUptoRow.holds Try.pinned (OpenSpec.upto pcmChecksSpec)

/-- 'lacquerlaw05.PcmUnpacks', WHERE WHAT IT READS IS OF BULK AT MOST 1048576: true; the input reads as it did. -/
def pcmUnpacksUptoRow : OpenClaim := { program := "ytipoadjhenjpiaa", sum := "be98abbe0a8a74063195b33db4609a4b65f6de0bb6af0a9458d27411878b839e", func := "lacquer/lacquerlaw05.PcmUnpacks", spec := "pcmUnpacks", unfollowed := true, recurses := true, apart := false, narrowed := true }
def PcmUnpacksUptoSaid : Prop := pcmUnpacksUptoRow.holds Try.pinned (OpenSpec.upto pcmUnpacksSpec)

/-- 'lacquerlaw05.PcmBack', WHERE WHAT IT READS IS OF BULK AT MOST 1048576: true; the input reads as it did. -/
def pcmBackUptoRow : OpenClaim := { program := "ytipoadjhenjpiaa", sum := "be98abbe0a8a74063195b33db4609a4b65f6de0bb6af0a9458d27411878b839e", func := "lacquer/lacquerlaw05.PcmBack", spec := "pcmBack", unfollowed := true, recurses := true, apart := false, narrowed := true }
def PcmBackUptoSaid : Prop := pcmBackUptoRow.holds Try.pinned (OpenSpec.upto pcmBackSpec)

/-- 'lacquerlaw05.PcmCuts', WHERE WHAT IT READS IS OF BULK AT MOST 1048576: true; the input reads as it did. -/
def pcmCutsUptoRow : OpenClaim := { program := "ytipoadjhenjpiaa", sum := "be98abbe0a8a74063195b33db4609a4b65f6de0bb6af0a9458d27411878b839e", func := "lacquer/lacquerlaw05.PcmCuts", spec := "pcmCuts", unfollowed := true, recurses := true, apart := false, narrowed := true }
def PcmCutsUptoSaid : Prop := pcmCutsUptoRow.holds Try.pinned (OpenSpec.upto pcmCutsSpec)

/-- 'lacquerlaw05.PcmParts', WHERE WHAT IT READS IS OF BULK AT MOST 1048576: true; the input reads as it did. -/
def pcmPartsUptoRow : OpenClaim := { program := "ytipoadjhenjpiaa", sum := "be98abbe0a8a74063195b33db4609a4b65f6de0bb6af0a9458d27411878b839e", func := "lacquer/lacquerlaw05.PcmParts", spec := "pcmParts", unfollowed := true, recurses := true, apart := false, narrowed := true }
def PcmPartsUptoSaid : Prop := pcmPartsUptoRow.holds Try.pinned (OpenSpec.upto pcmPartsSpec)

/-- 'lacquerlaw05.PcmPacks', WHERE WHAT IT READS IS OF BULK AT MOST 1048576: true; the input reads as it did. -/
def pcmPacksUptoRow : OpenClaim := { program := "ytipoadjhenjpiaa", sum := "be98abbe0a8a74063195b33db4609a4b65f6de0bb6af0a9458d27411878b839e", func := "lacquer/lacquerlaw05.PcmPacks", spec := "pcmPacks", unfollowed := true, recurses := true, apart := false, narrowed := true }
def PcmPacksUptoSaid : Prop := pcmPacksUptoRow.holds Try.pinned (OpenSpec.upto pcmPacksSpec)

end Rows
end Go.Proofs.Ytipoadjhenjpiaa
