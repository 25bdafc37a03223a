/- RfW: RfW. -/
import Derived.Test.YtjjeohcohhhcpaaRfP
section
set_option maxRecDepth 100000
namespace Go.Proofs.Ytjjeohcohhhcpaa.Dg
open Go.LM
noncomputable section
theorem fit : fitP Go.Proofs.Try.prog = true := by decide +kernel
theorem awake_run : exRunD Go.Proofs.Try.prog (fun f t => f == 37 && [22, 1048658].contains t) (fun f => if f == 25 then [true] else []) 200 7 [] 0 (heapOf []) = some (.dat .bool true, heapOf [], 0) := by kernel_rfl
def LQ.awake06 : Option Bool := some true
def TD.awake06 : Go.LM.Told := ⟨[], [], (.dat (Ty.bool)), [], fun _ => LQ.awake06⟩
theorem TD.awake06_ok : ToldSound Go.Proofs.Try.prog 7 TD.awake06 := exec_told fit awake_run
end
end Go.Proofs.Ytjjeohcohhhcpaa.Dg
end

