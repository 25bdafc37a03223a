/-
  No cell of these rows narrows 'for every input' (looked for: loops, veiled, ifaces, maps, wideKeys, modest, calm, conditions, laid).
  DERIVED. THE GIVEN ROWS OF THIS SEAT. 3 by the template 'for every input the law returns true; each argument reads behind the call as it read before'; 0 by the template 'total and deterministic' (their statements: YtjjeohcohhhcpaaTotals.lean).
  GIVEN WITH THE SEED: the statements are not yours to turn. If you find one false, say at which input.
  Laid BY PROGRAM, IN A SANDBOX (cutbox-rows.mjs): the forced cells as the released guide's own fill.sh prints them over the translation ab14bfcc485896ff… (all of the seat's roots in one cut). By AI agents, Wed Nov 11 2026. No macro, syntax, notation, axiom, sorry.
-/
import Derived.Test.YtjjeohcohhhcpaaChecked
import GoSem.Claim
import GoSem.ClaimJoined
import GoSem.ClaimMapViews
import Derived.JoinedTies
import Derived.KernelRfl
namespace Go.Proofs.Ytjjeohcohhhcpaa
/- THE CELL 'sum', in the pinned program and in every row, IS THE sha256 OF THE DUMP (.gsa) THAT YtjjeohcohhhcpaaProg.lean LOADS. Nothing in Lean hashes anything: it is a label: what it is worth is what the hold of that sum in a sandbox is worth. -/
noncomputable def Try.pinned : Pinned := { name := "ytjjeohcohhhcpaa", sum := "ab14bfcc485896ff321268cf656e2942e66cf1aeff74253a95e43a679095625a", checked := Try.checked }
namespace Rows
def none {H : Type} : Left H := { results := [], args := [] }

/-- 'lacquerlaw06.RiffBack': WHATEVER THE INPUT: true; the input reads as it did. -/
def riffBackSpec : ChangeSpec := { name := "riffBack", fn := fun _ => fun
  | [d] => { results := [.lit (.bool true)], args := [d] }
  | _ => none }
def riffBackRow : OpenClaim := { program := "ytjjeohcohhhcpaa", sum := "ab14bfcc485896ff321268cf656e2942e66cf1aeff74253a95e43a679095625a", func := "lacquer/lacquerlaw06.RiffBack", spec := "riffBack", unfollowed := true, recurses := true, apart := false }
def RiffBackSaid : Prop := riffBackRow.holds Try.pinned (OpenSpec.ofChange riffBackSpec)

/-- ITS FALSE NEIGHBOUR: 'it returns false'. Refute it at one input. -/
def riffBackWrong : ChangeSpec := { name := "riffBack", fn := fun _ => fun
  | [d] => { results := [.lit (.bool false)], args := [d] }
  | _ => none }
def RiffBackWrongFalsely : Prop := riffBackRow.holds Try.pinned (OpenSpec.ofChange riffBackWrong)

/-- 'lacquerlaw06.RiffPlain': WHATEVER THE INPUT: true; the input reads as it did. -/
def riffPlainSpec : ChangeSpec := { name := "riffPlain", fn := fun _ => fun
  | [d] => { results := [.lit (.bool true)], args := [d] }
  | _ => none }
def riffPlainRow : OpenClaim := { program := "ytjjeohcohhhcpaa", sum := "ab14bfcc485896ff321268cf656e2942e66cf1aeff74253a95e43a679095625a", func := "lacquer/lacquerlaw06.RiffPlain", spec := "riffPlain", unfollowed := true, recurses := true, apart := false }
def RiffPlainSaid : Prop := riffPlainRow.holds Try.pinned (OpenSpec.ofChange riffPlainSpec)

/-- ITS FALSE NEIGHBOUR: 'it returns false'. Refute it at one input. -/
def riffPlainWrong : ChangeSpec := { name := "riffPlain", fn := fun _ => fun
  | [d] => { results := [.lit (.bool false)], args := [d] }
  | _ => none }
def RiffPlainWrongFalsely : Prop := riffPlainRow.holds Try.pinned (OpenSpec.ofChange riffPlainWrong)

/-- 'lacquerlaw06.RiffChunks': WHATEVER THE INPUT: true; the input reads as it did. -/
def riffChunksSpec : ChangeSpec := { name := "riffChunks", fn := fun _ => fun
  | [d1, d2, d3] => { results := [.lit (.bool true)], args := [d1, d2, d3] }
  | _ => none }
def riffChunksRow : OpenClaim := { program := "ytjjeohcohhhcpaa", sum := "ab14bfcc485896ff321268cf656e2942e66cf1aeff74253a95e43a679095625a", func := "lacquer/lacquerlaw06.RiffChunks", spec := "riffChunks", unfollowed := true, recurses := true, apart := false }
def RiffChunksSaid : Prop := riffChunksRow.holds Try.pinned (OpenSpec.ofChange riffChunksSpec)

/-- ITS FALSE NEIGHBOUR: 'it returns false'. Refute it at one input. -/
def riffChunksWrong : ChangeSpec := { name := "riffChunks", fn := fun _ => fun
  | [d1, d2, d3] => { results := [.lit (.bool false)], args := [d1, d2, d3] }
  | _ => none }
def RiffChunksWrongFalsely : Prop := riffChunksRow.holds Try.pinned (OpenSpec.ofChange riffChunksWrong)

/- THE SECOND FORM. 'bulk': how many values and letters a reading holds, each counted each time it is reached (what is shared counts as often as it is met; a slice's spare places count too). A statement '..UptoSaid' is the law's where the arguments, and the package variables that the reading takes, are together of bulk at most 1048576: NARROWER than '..Said'. Prove '..Said' where nothing that the law and all that it calls make is longer than what came in: it says more and counts as full. Else prove '..UptoSaid'. A law counts once. -/
mutual
def uptoBulk {H : Type} : DataW H → Nat
  | .lit (.string bytes) => bytes.length + 1
  | .lit _ => 1
  | .nil => 1
  | .ptr d => uptoBulk d + 1
  | .slice elems spare => uptoBulkAll elems + uptoBulkAll spare + 1
  | .agg parts => uptoBulkAll parts + 1
  | .iface _ d => uptoBulk d + 1
  | .map entries => uptoBulkEntries entries + 1
  | .held _ => 1
def uptoBulkAll {H : Type} : List (DataW H) → Nat
  | [] => 0
  | d :: r => uptoBulk d + uptoBulkAll r
def uptoBulkEntries {H : Type} : List (Lit × DataW H) → Nat
  | [] => 0
  | x :: r => uptoBulkEntry x + uptoBulkEntries r
def uptoBulkEntry {H : Type} : Lit × DataW H → Nat
  | (.string bytes, d) => bytes.length + uptoBulk d + 1
  | (_, d) => uptoBulk d + 1
 end
def uptoSmall : (H : Type) → List (DataW H) → Bool := fun _ ds => decide (uptoBulkAll ds ≤ 1048576)
def OpenSpec.upto (s : _root_.Go.ChangeSpec) : _root_.Go.OpenSpec := { _root_.Go.OpenSpec.ofChange s with cond := some uptoSmall }

/-- 'lacquerlaw06.RiffBack', WHERE WHAT IT READS IS OF BULK AT MOST 1048576: true; the input reads as it did. -/
def riffBackUptoRow : OpenClaim := { program := "ytjjeohcohhhcpaa", sum := "ab14bfcc485896ff321268cf656e2942e66cf1aeff74253a95e43a679095625a", func := "lacquer/lacquerlaw06.RiffBack", spec := "riffBack", unfollowed := true, recurses := true, apart := false, narrowed := true }
def RiffBackUptoSaid : Prop := riffBackUptoRow.holds Try.pinned (OpenSpec.upto riffBackSpec)

/-- 'lacquerlaw06.RiffPlain', WHERE WHAT IT READS IS OF BULK AT MOST 1048576: true; the input reads as it did. -/
def riffPlainUptoRow : OpenClaim := { program := "ytjjeohcohhhcpaa", sum := "ab14bfcc485896ff321268cf656e2942e66cf1aeff74253a95e43a679095625a", func := "lacquer/lacquerlaw06.RiffPlain", spec := "riffPlain", unfollowed := true, recurses := true, apart := false, narrowed := true }
def RiffPlainUptoSaid : Prop := riffPlainUptoRow.holds Try.pinned (OpenSpec.upto riffPlainSpec)

/-- 'lacquerlaw06.RiffChunks', WHERE WHAT IT READS IS OF BULK AT MOST 1048576: true; the input reads as it did. -/
def riffChunksUptoRow : OpenClaim := { program := "ytjjeohcohhhcpaa", sum := "ab14bfcc485896ff321268cf656e2942e66cf1aeff74253a95e43a679095625a", func := "lacquer/lacquerlaw06.RiffChunks", spec := "riffChunks", unfollowed := true, recurses := true, apart := false, narrowed := true }
def RiffChunksUptoSaid : Prop := riffChunksUptoRow.holds Try.pinned (OpenSpec.upto riffChunksSpec)

end Rows
end Go.Proofs.Ytjjeohcohhhcpaa
