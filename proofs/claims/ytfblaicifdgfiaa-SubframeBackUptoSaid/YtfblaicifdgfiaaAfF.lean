/- AfF: AfF. -/
import Derived.Test.YtfblaicifdgfiaaProg
import Derived.Test.YtfblaicifdgfiaaLmH
import Derived.KernelRfl
section
set_option maxRecDepth 100000
namespace Go.Proofs.Ytfblaicifdgfiaa.Dg
open Go.LM
theorem fit : fitP Go.Proofs.Try.prog = true := by decide +kernel
end Go.Proofs.Ytfblaicifdgfiaa.Dg
end

