/- SfG: SfF SfG. -/
import Derived.Test.YtfblaicifdgfiaaSfP
import Derived.Test.YtfblaicifdgfiaaAfF
section
set_option maxRecDepth 100000
set_option linter.unusedVariables false
namespace Go.Proofs.Ytfblaicifdgfiaa.Dg
open Go.LM
noncomputable section
namespace LQ
def CloneN.t (s_0 : Bool) (s_1 : List Int) : Go.LM.Tr (List Int) :=
  Tr.br s_0 (Tr.ret []) (Tr.need (((0 : Nat) + s_1.length) * (8 : Nat) ≤ (140737488355328 : Nat)) (Tr.ret ([] ++ s_1)))
def CloneN (s_0 : Bool) (s_1 : List Int) : Option (List Int) := (CloneN.t s_0 s_1).run
end LQ
def TD.CloneN : Go.LM.Told := ⟨[.nz (.int .i64)], [], (.dat ((Ty.int Go.IntKind.i64).sl)), [], fun d => LQ.CloneN d.1 d.2⟩
theorem TD.CloneN_eq : (fun d => Go.LM.tFn (Go.LM.mkCxD Go.Proofs.Try.prog [] []) Go.Proofs.Try.f154 (.t .n (.t (.t .n (.k [0] [0] [] [2] .n .n)) .n)) TD.CloneN d) = (fun d => LQ.CloneN.t d.1 d.2) := by kernel_rfl
namespace LQ
def CloneW.t (s_0 : Bool) (s_1 : List Int) : Go.LM.Tr (List Int) :=
  Tr.br s_0 (Tr.ret []) (Tr.need (((0 : Nat) + s_1.length) * (8 : Nat) ≤ (140737488355328 : Nat)) (Tr.ret ([] ++ s_1)))
def CloneW (s_0 : Bool) (s_1 : List Int) : Option (List Int) := (CloneW.t s_0 s_1).run
end LQ
def TD.CloneW : Go.LM.Told := ⟨[.nz (.int .i64)], [], .full 0, [.row (.int .i64) false], fun d => LQ.CloneW d.1 d.2⟩
theorem TD.CloneW_eq : (fun d => Go.LM.tFn (Go.LM.mkCxD Go.Proofs.Try.prog [] []) Go.Proofs.Try.f154 (.t .n (.t (.t .n (.k [0] [0] [] [2] .n .n)) .n)) TD.CloneW d) = (fun d => LQ.CloneW.t d.1 d.2) := by kernel_rfl
end
end Go.Proofs.Ytfblaicifdgfiaa.Dg
end

section
set_option maxRecDepth 100000
namespace Go.Proofs.Ytfblaicifdgfiaa.Dg
open Go.LM
set_option linter.unusedVariables false
noncomputable section
theorem TD.CloneN_ok : ToldSound Go.Proofs.Try.prog 154 TD.CloneN := told_soundD fit ToldsOK.nil Go.Proofs.Try.func154 rfl TD.CloneN_eq (fun d => rfl)
theorem TD.CloneW_ok : ToldSound Go.Proofs.Try.prog 154 TD.CloneW := told_soundD fit ToldsOK.nil Go.Proofs.Try.func154 rfl TD.CloneW_eq (fun d => rfl)
def LQ.CloneI (s : List Int) : Option (List Int) := if s.length * 8 ≤ 140737488355328 then some s else none
def TD.CloneI : Go.LM.Told := ⟨[(.dat ((Ty.int Go.IntKind.i64).sl))], [], (.dat ((Ty.int Go.IntKind.i64).sl)), [], fun d => LQ.CloneI d⟩
theorem clone_i (b : Bool) (xs : List Int) (h : b = true → xs = []) : LQ.CloneN b xs = LQ.CloneI xs := by
  unfold LQ.CloneN LQ.CloneN.t LQ.CloneI
  cases b with
  | true => rw [h rfl]; rfl
  | false => simp only [Tr.run, cond_false, Nat.zero_add, List.nil_append]
theorem TD.CloneI_ok : ToldSound Go.Proofs.Try.prog 154 TD.CloneI := told_nz TD.CloneN_ok clone_i
def TD.CloneR : Go.LM.Told := ⟨[(.dat ((Ty.int Go.IntKind.i64).sl))], [], .full 0, [.row (.int .i64) false], fun d => LQ.CloneI d⟩
theorem clone_w (b : Bool) (xs : List Int) (h : b = true → xs = []) : LQ.CloneW b xs = LQ.CloneI xs := by
  unfold LQ.CloneW LQ.CloneW.t LQ.CloneI
  cases b with
  | true => rw [h rfl]; rfl
  | false => simp only [Tr.run, cond_false, Nat.zero_add, List.nil_append]
theorem TD.CloneR_ok : ToldSound Go.Proofs.Try.prog 154 TD.CloneR := told_nz TD.CloneW_ok clone_w
end
end Go.Proofs.Ytfblaicifdgfiaa.Dg
end

