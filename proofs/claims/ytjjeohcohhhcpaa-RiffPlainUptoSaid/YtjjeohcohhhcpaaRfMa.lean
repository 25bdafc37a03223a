/- RfMa: RfM RfMS. -/
import Derived.Test.YtjjeohcohhhcpaaRfL
import Derived.Test.YtjjeohcohhhcpaaRfW
import Derived.Test.YtjjeohcohhhcpaaRfLS
section
set_option maxRecDepth 100000
set_option linter.unusedVariables false
namespace Go.Proofs.Ytjjeohcohhhcpaa.Dg
open Go.LM
noncomputable section
namespace LQ
def RiffBack.t (s : List UInt8) : Go.LM.Tr (Bool) :=
  Tr.bind ((Int × Int × Int × List (List Int) × PUnit) × (List UInt8 × List (List UInt8 × List UInt8 × Int × PUnit) × PUnit) × Int) (LQ.Parse s) (((0 : Int), (0 : Int), (0 : Int), [], ()), ([], [], ()), (0 : Int)) fun (r0 : (Int × Int × Int × List (List Int) × PUnit) × (List UInt8 × List (List UInt8 × List UInt8 × Int × PUnit) × PUnit) × Int) ↦ Tr.br (r0.snd.snd != (0 : Int)) (Tr.bind Bool (Tr.br (Int.ofNat r0.fst.snd.snd.snd.fst.length == (0 : Int)) (Tr.br (Int.ofNat r0.snd.fst.snd.fst.length == (0 : Int)) (Tr.bind Bool LQ.awake06 false fun (r1 : Bool) ↦ Tr.ret r1) (Tr.ret false)) (Tr.ret false)).run false fun (r2 : Bool) ↦ Tr.ret r2) (Tr.bind (List UInt8 × Int) (LQ.Build (r0.fst.fst, r0.fst.snd.fst, r0.fst.snd.snd.fst, r0.fst.snd.snd.snd.fst, ()) (r0.snd.fst.fst, r0.snd.fst.snd.fst, ())) ([], (0 : Int)) fun (r3 : List UInt8 × Int) ↦ Tr.bind Bool (Tr.br (r3.snd == (0 : Int)) (Tr.br (r3.fst == s) (Tr.bind Bool LQ.awake06 false fun (r4 : Bool) ↦ Tr.ret r4) (Tr.ret false)) (Tr.ret false)).run false fun (r5 : Bool) ↦ Tr.ret r5)
def RiffBack (s : List UInt8) : Option (Bool) := (RiffBack.t s).run
end LQ
def TD.RiffBack : Go.LM.Told := ⟨[(.dat (Ty.str))], [], (.dat (Ty.bool)), [], fun d => LQ.RiffBack d⟩
theorem TD.RiffBack_eq : (fun d => Go.LM.tFn (Go.LM.mkCxD Go.Proofs.Try.prog [] [(6, [TD.Parse]), (7, [TD.awake06]), (8, [TD.Build])]) Go.Proofs.Try.f3 (.t .n (.t .n (.t (.t .n (.k [0, 3, 4] [0, 3, 4] [] [2] (.t (.k [] [2] [] [] .n .n) .n) .n)) (.t .n (.t (.k [] [2] [] [] .n .n) .n))))) TD.RiffBack d) = (fun d => LQ.RiffBack.t d) := by kernel_rfl
namespace LQ
def RiffPlain.t (p : Int × Int × Int × List (List Int) × PUnit) : Go.LM.Tr (Bool) :=
  Tr.bind Int (LQ.r5_Fits (1 : Int) (p.fst, p.snd.fst, p.snd.snd.fst, p.snd.snd.snd.fst, ())) (0 : Int) fun (r0 : Int) ↦ Tr.br (r0 != (0 : Int)) (Tr.bind Bool (Tr.bind (List UInt8 × List (List UInt8 × List UInt8 × Int × PUnit) × PUnit) (LQ.Plain (p.fst, p.snd.fst, p.snd.snd.fst, p.snd.snd.snd.fst, ())) ([], [], ()) fun (r1 : List UInt8 × List (List UInt8 × List UInt8 × Int × PUnit) × PUnit) ↦ Tr.br (Int.ofNat r1.snd.fst.length == (0 : Int)) (Tr.bind Bool LQ.awake06 false fun (r2 : Bool) ↦ Tr.ret r2) (Tr.ret false)).run false fun (r3 : Bool) ↦ Tr.ret r3) (Tr.bind (List UInt8 × List (List UInt8 × List UInt8 × Int × PUnit) × PUnit) (LQ.Plain (p.fst, p.snd.fst, p.snd.snd.fst, p.snd.snd.snd.fst, ())) ([], [], ()) fun (r4 : List UInt8 × List (List UInt8 × List UInt8 × Int × PUnit) × PUnit) ↦ Tr.bind (List UInt8 × Int) (LQ.Build (p.fst, p.snd.fst, p.snd.snd.fst, p.snd.snd.snd.fst, ()) r4) ([], (0 : Int)) fun (r5 : List UInt8 × Int) ↦ Tr.bind ((Int × Int × Int × List (List Int) × PUnit) × (List UInt8 × List (List UInt8 × List UInt8 × Int × PUnit) × PUnit) × Int) (LQ.Parse r5.fst) (((0 : Int), (0 : Int), (0 : Int), [], ()), ([], [], ()), (0 : Int)) fun (r6 : (Int × Int × Int × List (List Int) × PUnit) × (List UInt8 × List (List UInt8 × List UInt8 × Int × PUnit) × PUnit) × Int) ↦ Tr.bind Bool (Tr.br (r5.snd == (0 : Int)) (Tr.br (r6.snd.snd == (0 : Int)) (Tr.bind Bool (LQ.r5_Same (p.fst, p.snd.fst, p.snd.snd.fst, p.snd.snd.snd.fst, ()) (r6.fst.fst, r6.fst.snd.fst, r6.fst.snd.snd.fst, r6.fst.snd.snd.snd.fst, ())) false fun (r7 : Bool) ↦ Tr.br r7 (Tr.bind (List UInt8 × List (List UInt8 × List UInt8 × Int × PUnit) × PUnit) (LQ.Plain (p.fst, p.snd.fst, p.snd.snd.fst, p.snd.snd.snd.fst, ())) ([], [], ()) fun (r8 : List UInt8 × List (List UInt8 × List UInt8 × Int × PUnit) × PUnit) ↦ Tr.bind Bool (LQ.r6_Same (r6.snd.fst.fst, r6.snd.fst.snd.fst, ()) r8) false fun (r9 : Bool) ↦ Tr.br r9 (Tr.bind Bool LQ.awake06 false fun (r10 : Bool) ↦ Tr.ret r10) (Tr.ret false)) (Tr.ret false)) (Tr.ret false)) (Tr.ret false)).run false fun (r11 : Bool) ↦ Tr.ret r11)
def RiffPlain (p : Int × Int × Int × List (List Int) × PUnit) : Option (Bool) := (RiffPlain.t p).run
end LQ
def TD.RiffPlain : Go.LM.Told := ⟨[(.dat ((Ty.int Go.IntKind.i64).pr ((Ty.int Go.IntKind.i64).pr ((Ty.int Go.IntKind.i64).pr ((Ty.int Go.IntKind.i64).sl.sl.pr Ty.un)))))], [], (.dat (Ty.bool)), [], fun d => LQ.RiffPlain d⟩
theorem TD.RiffPlain_eq : (fun d => Go.LM.tFn (Go.LM.mkCxD Go.Proofs.Try.prog [] [(9, [TD.r5_Fits]), (10, [TD.Plain]), (7, [TD.awake06]), (8, [TD.Build]), (6, [TD.Parse]), (11, [TD.r5_Same]), (12, [TD.r6_Same])]) Go.Proofs.Try.f4 (.t .n (.t (.t .n (.k [1] [1] [] [2] (.t (.k [] [2] [] [] .n .n) .n) .n)) (.t .n (.t .n (.t (.k [] [2] [] [] .n .n) .n))))) TD.RiffPlain d) = (fun d => LQ.RiffPlain.t d) := by kernel_rfl
end
end Go.Proofs.Ytjjeohcohhhcpaa.Dg
end

section
set_option linter.unusedVariables false
set_option maxRecDepth 100000
namespace Go.Proofs.Ytjjeohcohhhcpaa.Dg
open Go.LM
theorem TD.RiffBack_ok : ToldSound Go.Proofs.Try.prog 3 TD.RiffBack := told_soundD fit (ToldsOK.cons (toldAll_cons TD.Parse_ok toldAll_nil) (ToldsOK.cons (toldAll_cons TD.awake06_ok toldAll_nil) (ToldsOK.cons (toldAll_cons TD.Build_ok toldAll_nil) ToldsOK.nil))) Go.Proofs.Try.func3 rfl TD.RiffBack_eq (fun d => rfl)
theorem TD.RiffPlain_ok : ToldSound Go.Proofs.Try.prog 4 TD.RiffPlain := told_soundD fit (ToldsOK.cons (toldAll_cons TD.r5_Fits_ok toldAll_nil) (ToldsOK.cons (toldAll_cons TD.Plain_ok toldAll_nil) (ToldsOK.cons (toldAll_cons TD.awake06_ok toldAll_nil) (ToldsOK.cons (toldAll_cons TD.Build_ok toldAll_nil) (ToldsOK.cons (toldAll_cons TD.Parse_ok toldAll_nil) (ToldsOK.cons (toldAll_cons TD.r5_Same_ok toldAll_nil) (ToldsOK.cons (toldAll_cons TD.r6_Same_ok toldAll_nil) ToldsOK.nil))))))) Go.Proofs.Try.func4 rfl TD.RiffPlain_eq (fun d => rfl)
end Go.Proofs.Ytjjeohcohhhcpaa.Dg
end

