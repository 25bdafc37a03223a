/- SfD: SfD. -/
import Derived.Test.YtfblaicifdgfiaaSfC
section
set_option maxRecDepth 100000
set_option linter.unusedVariables false
namespace Go.Proofs.Ytfblaicifdgfiaa.Dg
open Go.LM
noncomputable section
namespace LQ
end LQ
end
end Go.Proofs.Ytfblaicifdgfiaa.Dg
end

