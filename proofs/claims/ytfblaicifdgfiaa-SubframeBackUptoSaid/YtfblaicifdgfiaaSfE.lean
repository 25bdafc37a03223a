/- SfE: SfW SfE. -/
import Derived.Test.YtfblaicifdgfiaaAfF
import Derived.Test.YtfblaicifdgfiaaSfD
section
set_option maxRecDepth 100000
namespace Go.Proofs.Ytfblaicifdgfiaa.Dg
open Go.LM
noncomputable section
theorem awk_run : exRunE Go.Proofs.Try.prog (fun _ _ => false) (fun _ => []) (fun f => natIn [39, 138, 137, 19, 12, 155] f) 200 9 [] 0 (heapOf []) = some (.dat .bool true, heapOf [], 0) := by kernel_rfl
def LQ.awk : Option Bool := some true
def TD.awk : Go.LM.Told := ⟨[], [], (.dat (Ty.bool)), [], fun _ => LQ.awk⟩
theorem TD.awk_ok : ToldSound Go.Proofs.Try.prog 9 TD.awk := execE_told fit awk_run
end
end Go.Proofs.Ytfblaicifdgfiaa.Dg
end

section
set_option maxRecDepth 100000
set_option linter.unusedVariables false
namespace Go.Proofs.Ytfblaicifdgfiaa.Dg
open Go.LM
noncomputable section
namespace LQ
end LQ
end
end Go.Proofs.Ytfblaicifdgfiaa.Dg
end

