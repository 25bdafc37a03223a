/- SfS: SfPS SfCS SfBS SfHS SfIS SfJS. -/
import Derived.Test.YtfblaicifdgfiaaAfF
import Derived.Test.YtfblaicifdgfiaaSfP
import Derived.Test.YtfblaicifdgfiaaSfC
import Derived.Test.YtfblaicifdgfiaaSfG
import Derived.Test.YtfblaicifdgfiaaSfB
import Derived.Test.YtfblaicifdgfiaaSfH
import Derived.Test.YtfblaicifdgfiaaSfI
import Derived.Test.YtfblaicifdgfiaaSfJ
section
set_option linter.unusedVariables false
set_option maxRecDepth 100000
namespace Go.Proofs.Ytfblaicifdgfiaa.Dg
open Go.LM
theorem TD.bNew_ok : ToldSound Go.Proofs.Try.prog 10 TD.bNew := told_soundD fit ToldsOK.nil Go.Proofs.Try.func10 rfl TD.bNew_eq (fun d => rfl)
theorem TD.at1_ok : ToldSound Go.Proofs.Try.prog 39 TD.at1 := told_soundD fit ToldsOK.nil Go.Proofs.Try.func39 rfl TD.at1_eq (fun d => rfl)
theorem TD.on1_ok : ToldSound Go.Proofs.Try.prog 136 TD.on1 := told_soundD fit ToldsOK.nil Go.Proofs.Try.func136 rfl TD.on1_eq (fun d => rfl)
theorem TD.bit1_ok : ToldSound Go.Proofs.Try.prog 135 TD.bit1 := told_soundD fit (ToldsOK.cons (toldAll_cons TD.at1_ok toldAll_nil) (ToldsOK.cons (toldAll_cons TD.on1_ok toldAll_nil) ToldsOK.nil)) Go.Proofs.Try.func135 rfl TD.bit1_eq (fun d => rfl)
theorem TD.lay1_ok : ToldSound Go.Proofs.Try.prog 88 TD.lay1 := told_soundD fit (ToldsOK.cons (toldAll_cons TD.bit1_ok toldAll_nil) ToldsOK.nil) Go.Proofs.Try.func88 rfl TD.lay1_eq (fun d => rfl)
theorem TD.put1_ok : ToldSound Go.Proofs.Try.prog 35 TD.put1 := told_soundD fit (ToldsOK.cons (toldAll_cons TD.lay1_ok toldAll_nil) ToldsOK.nil) Go.Proofs.Try.func35 rfl TD.put1_eq (fun d => rfl)
theorem TD.bfits_ok : ToldSound Go.Proofs.Try.prog 90 TD.bfits := told_soundD fit ToldsOK.nil Go.Proofs.Try.func90 rfl TD.bfits_eq (fun d => rfl)
theorem TD.sig1_ok : ToldSound Go.Proofs.Try.prog 38 TD.sig1 := told_soundD fit (ToldsOK.cons (toldAll_cons TD.bfits_ok toldAll_nil) (ToldsOK.cons (toldAll_cons TD.lay1_ok toldAll_nil) ToldsOK.nil)) Go.Proofs.Try.func38 rfl TD.sig1_eq (fun d => rfl)
theorem TD.una1_ok : ToldSound Go.Proofs.Try.prog 89 TD.una1 := told_soundD fit (ToldsOK.cons (toldAll_cons TD.at1_ok toldAll_nil) (ToldsOK.cons (toldAll_cons TD.on1_ok toldAll_nil) (ToldsOK.cons (toldAll_cons TD.bit1_ok toldAll_nil) ToldsOK.nil))) Go.Proofs.Try.func89 rfl TD.una1_eq (fun d => rfl)
theorem TD.Una1_ok : ToldSound Go.Proofs.Try.prog 36 TD.Una1 := told_soundD fit (ToldsOK.cons (toldAll_cons TD.una1_ok toldAll_nil) ToldsOK.nil) Go.Proofs.Try.func36 rfl TD.Una1_eq (fun d => rfl)
theorem TD.len1_ok : ToldSound Go.Proofs.Try.prog 12 TD.len1 := told_soundD fit (ToldsOK.cons (toldAll_cons TD.at1_ok toldAll_nil) ToldsOK.nil) Go.Proofs.Try.func12 rfl TD.len1_eq (fun d => rfl)
theorem TD.sfits_ok : ToldSound Go.Proofs.Try.prog 44 TD.sfits := told_soundD fit ToldsOK.nil Go.Proofs.Try.func44 rfl TD.sfits_eq (fun d => rfl)
theorem TD.bare_ok : ToldSound Go.Proofs.Try.prog 80 TD.bare := told_soundD fit ToldsOK.nil Go.Proofs.Try.func80 rfl TD.bare_eq (fun d => rfl)
theorem TD.warm_ok : ToldSound Go.Proofs.Try.prog 37 TD.warm := told_soundD fit ToldsOK.nil Go.Proofs.Try.func37 rfl TD.warm_eq (fun d => rfl)
theorem TD.Shift_ok : ToldSound Go.Proofs.Try.prog 82 TD.Shift := told_soundD fit ToldsOK.nil Go.Proofs.Try.func82 rfl TD.Shift_eq (fun d => rfl)
theorem TD.rshape_ok : ToldSound Go.Proofs.Try.prog 129 TD.rshape := told_soundD fit ToldsOK.nil Go.Proofs.Try.func129 rfl TD.rshape_eq (fun d => rfl)
theorem TD.rCheck_ok : ToldSound Go.Proofs.Try.prog 81 TD.rCheck := told_soundD fit (ToldsOK.cons (toldAll_cons TD.rshape_ok toldAll_nil) ToldsOK.nil) Go.Proofs.Try.func81 rfl TD.rCheck_eq (fun d => rfl)
theorem TD.chk1_ok : ToldSound Go.Proofs.Try.prog 79 TD.chk1 := told_soundD fit (ToldsOK.cons (toldAll_cons TD.sfits_ok toldAll_nil) ToldsOK.nil) Go.Proofs.Try.func79 rfl TD.chk1_eq (fun d => rfl)
theorem TD.IdxF_ok : ToldSound Go.Proofs.Try.prog 99 TD.IdxF := told_soundD fit (ToldsOK.cons (toldAll_cons TD.chk1_ok toldAll_nil) ToldsOK.nil) Go.Proofs.Try.func99 rfl TD.IdxF_eq (fun d => rfl)
theorem TD.ConF_ok : ToldSound Go.Proofs.Try.prog 42 TD.ConF := told_soundD fit (ToldsOK.cons (toldAll_cons TD.IdxF_ok toldAll_nil) (ToldsOK.cons (toldAll_cons TD.chk1_ok toldAll_nil) ToldsOK.nil)) Go.Proofs.Try.func42 rfl TD.ConF_eq (fun d => rfl)
theorem TD.Check_ok : ToldSound Go.Proofs.Try.prog 31 TD.Check := told_soundD fit (ToldsOK.cons (toldAll_cons TD.chk1_ok toldAll_nil) (ToldsOK.cons (toldAll_cons TD.ConF_ok toldAll_nil) (ToldsOK.cons (toldAll_cons TD.bare_ok toldAll_nil) (ToldsOK.cons (toldAll_cons TD.rCheck_ok toldAll_nil) ToldsOK.nil)))) Go.Proofs.Try.func31 rfl TD.Check_eq (fun d => rfl)
theorem TD.goes_ok : ToldSound Go.Proofs.Try.prog 32 TD.goes := told_soundD fit (ToldsOK.cons (toldAll_cons TD.sfits_ok toldAll_nil) (ToldsOK.cons (toldAll_cons TD.Shift_ok toldAll_nil) ToldsOK.nil)) Go.Proofs.Try.func32 rfl TD.goes_eq (fun d => rfl)
theorem TD.short_ok : ToldSound Go.Proofs.Try.prog 13 TD.short := told_soundD fit ToldsOK.nil Go.Proofs.Try.func13 rfl TD.short_eq (fun d => rfl)
end Go.Proofs.Ytfblaicifdgfiaa.Dg
end

section
set_option linter.unusedVariables false
set_option maxRecDepth 100000
namespace Go.Proofs.Ytfblaicifdgfiaa.Dg
open Go.LM
theorem TD.wBytes_ok : ToldSound Go.Proofs.Try.prog 15 TD.wBytes := told_soundD fit ToldsOK.nil Go.Proofs.Try.func15 rfl TD.wBytes_eq (fun d => rfl)
theorem TD.rOf_ok : ToldSound Go.Proofs.Try.prog 14 TD.rOf := told_soundD fit ToldsOK.nil Go.Proofs.Try.func14 rfl TD.rOf_eq (fun d => rfl)
theorem TD.atR_ok : ToldSound Go.Proofs.Try.prog 39 TD.atR := told_soundD fit ToldsOK.nil Go.Proofs.Try.func39 rfl TD.atR_eq (fun d => rfl)
theorem TD.onR_ok : ToldSound Go.Proofs.Try.prog 136 TD.onR := told_soundD fit ToldsOK.nil Go.Proofs.Try.func136 rfl TD.onR_eq (fun d => rfl)
theorem TD.peek_ok : ToldSound Go.Proofs.Try.prog 138 TD.peek := told_soundD fit ToldsOK.nil Go.Proofs.Try.func138 rfl TD.peek_eq (fun d => rfl)
theorem TD.Left_ok : ToldSound Go.Proofs.Try.prog 137 TD.Left := told_soundD fit (ToldsOK.cons (toldAll_cons TD.at1_ok (toldAll_cons TD.atR_ok toldAll_nil)) ToldsOK.nil) Go.Proofs.Try.func137 rfl TD.Left_eq (fun d => rfl)
theorem TD.AtR_ok : ToldSound Go.Proofs.Try.prog 19 TD.AtR := told_soundD fit (ToldsOK.cons (toldAll_cons TD.at1_ok (toldAll_cons TD.atR_ok toldAll_nil)) ToldsOK.nil) Go.Proofs.Try.func19 rfl TD.AtR_eq (fun d => rfl)
theorem TD.Get_ok : ToldSound Go.Proofs.Try.prog 91 TD.Get := told_soundD fit (ToldsOK.cons (toldAll_cons TD.Left_ok toldAll_nil) (ToldsOK.cons (toldAll_cons TD.at1_ok (toldAll_cons TD.atR_ok toldAll_nil)) (ToldsOK.cons (toldAll_cons TD.peek_ok toldAll_nil) (ToldsOK.cons (toldAll_cons TD.on1_ok (toldAll_cons TD.onR_ok toldAll_nil)) ToldsOK.nil)))) Go.Proofs.Try.func91 rfl TD.Get_eq (fun d => rfl)
theorem TD.SignedR_ok : ToldSound Go.Proofs.Try.prog 139 TD.SignedR := told_soundD fit (ToldsOK.cons (toldAll_cons TD.Get_ok toldAll_nil) ToldsOK.nil) Go.Proofs.Try.func139 rfl TD.SignedR_eq (fun d => rfl)
theorem TD.UnaryR_ok : ToldSound Go.Proofs.Try.prog 92 TD.UnaryR := told_soundD fit (ToldsOK.cons (toldAll_cons TD.Left_ok toldAll_nil) (ToldsOK.cons (toldAll_cons TD.at1_ok (toldAll_cons TD.atR_ok toldAll_nil)) (ToldsOK.cons (toldAll_cons TD.peek_ok toldAll_nil) (ToldsOK.cons (toldAll_cons TD.on1_ok (toldAll_cons TD.onR_ok toldAll_nil)) ToldsOK.nil)))) Go.Proofs.Try.func92 rfl TD.UnaryR_eq (fun d => rfl)
theorem TD.numbers_ok : ToldSound Go.Proofs.Try.prog 93 TD.numbers := told_soundD fit (ToldsOK.cons (toldAll_cons TD.SignedR_ok toldAll_nil) ToldsOK.nil) Go.Proofs.Try.func93 rfl TD.numbers_eq (fun d => rfl)
theorem TD.head_ok : ToldSound Go.Proofs.Try.prog 40 TD.head := told_soundD fit (ToldsOK.cons (toldAll_cons TD.Get_ok toldAll_nil) (ToldsOK.cons (toldAll_cons TD.UnaryR_ok toldAll_nil) ToldsOK.nil)) Go.Proofs.Try.func40 rfl TD.head_eq (fun d => rfl)
theorem TD.coefs_ok : ToldSound Go.Proofs.Try.prog 95 TD.coefs := told_soundD fit (ToldsOK.cons (toldAll_cons TD.Get_ok toldAll_nil) (ToldsOK.cons (toldAll_cons TD.numbers_ok toldAll_nil) ToldsOK.nil)) Go.Proofs.Try.func95 rfl TD.coefs_eq (fun d => rfl)
theorem TD.Mul32_ok : ToldSound Go.Proofs.Try.prog 150 TD.Mul32 := told_soundD fit ToldsOK.nil Go.Proofs.Try.func150 rfl TD.Mul32_eq (fun d => rfl)
theorem TD.Mul64_ok : ToldSound Go.Proofs.Try.prog 151 TD.Mul64 := told_soundD fit ToldsOK.nil Go.Proofs.Try.func151 rfl TD.Mul64_eq (fun d => rfl)
theorem TD.bMul_ok : ToldSound Go.Proofs.Try.prog 124 TD.bMul := told_soundD fit (ToldsOK.cons (toldAll_cons TD.Mul32_ok toldAll_nil) (ToldsOK.cons (toldAll_cons TD.Mul64_ok toldAll_nil) ToldsOK.nil)) Go.Proofs.Try.func124 rfl TD.bMul_eq (fun d => rfl)
theorem TD.RepI_ok : ToldSound Go.Proofs.Try.prog 94 TD.RepI := told_soundD fit (ToldsOK.cons (toldAll_cons TD.bMul_ok toldAll_nil) ToldsOK.nil) Go.Proofs.Try.func94 rfl TD.RepI_eq (fun d => rfl)
theorem TD.dec1_ok : ToldSound Go.Proofs.Try.prog 43 TD.dec1 := told_soundD fit (ToldsOK.cons (toldAll_cons TD.sfits_ok toldAll_nil) ToldsOK.nil) Go.Proofs.Try.func43 rfl TD.dec1_eq (fun d => rfl)
theorem TD.IdxG_ok : ToldSound Go.Proofs.Try.prog 99 TD.IdxG := told_soundD fit (ToldsOK.cons (toldAll_cons TD.dec1_ok toldAll_nil) ToldsOK.nil) Go.Proofs.Try.func99 rfl TD.IdxG_eq (fun d => rfl)
theorem TD.ConG_ok : ToldSound Go.Proofs.Try.prog 42 TD.ConG := told_soundD fit (ToldsOK.cons (toldAll_cons TD.IdxF_ok (toldAll_cons TD.IdxG_ok toldAll_nil)) (ToldsOK.cons (toldAll_cons TD.dec1_ok toldAll_nil) ToldsOK.nil)) Go.Proofs.Try.func42 rfl TD.ConG_eq (fun d => rfl)
theorem TD.Unshift_ok : ToldSound Go.Proofs.Try.prog 45 TD.Unshift := told_soundD fit ToldsOK.nil Go.Proofs.Try.func45 rfl TD.Unshift_eq (fun d => rfl)
theorem TD.rInts_ok : ToldSound Go.Proofs.Try.prog 17 TD.rInts := told_soundD fit ToldsOK.nil Go.Proofs.Try.func17 rfl TD.rInts_eq (fun d => rfl)
end Go.Proofs.Ytfblaicifdgfiaa.Dg
end

section
set_option linter.unusedVariables false
set_option maxRecDepth 100000
namespace Go.Proofs.Ytfblaicifdgfiaa.Dg
open Go.LM
theorem TD.pred1_ok : ToldSound Go.Proofs.Try.prog 155 TD.pred1 := told_soundD fit ToldsOK.nil Go.Proofs.Try.func155 rfl TD.pred1_eq (fun d => rfl)
theorem TD.pOf_ok : ToldSound Go.Proofs.Try.prog 133 TD.pOf := told_soundD fit (ToldsOK.cons (toldAll_cons TD.CloneI_ok toldAll_nil) (ToldsOK.cons (toldAll_cons TD.pred1_ok toldAll_nil) ToldsOK.nil)) Go.Proofs.Try.func133 rfl TD.pOf_eq (fun d => rfl)
theorem TD.pFixed_ok : ToldSound Go.Proofs.Try.prog 131 TD.pFixed := told_soundD fit (ToldsOK.cons (toldAll_cons TD.pOf_ok toldAll_nil) ToldsOK.nil) Go.Proofs.Try.func131 rfl TD.pFixed_eq (fun d => rfl)
theorem TD.pLeft_ok : ToldSound Go.Proofs.Try.prog 130 TD.pLeft := told_soundD fit (ToldsOK.cons (toldAll_cons TD.pred1_ok toldAll_nil) ToldsOK.nil) Go.Proofs.Try.func130 rfl TD.pLeft_eq (fun d => rfl)
theorem TD.pMay_ok : ToldSound Go.Proofs.Try.prog 132 TD.pMay := told_soundD fit ToldsOK.nil Go.Proofs.Try.func132 rfl TD.pMay_eq (fun d => rfl)
theorem TD.Fixed_ok : ToldSound Go.Proofs.Try.prog 83 TD.Fixed := told_soundD fit (ToldsOK.cons (toldAll_cons TD.pFixed_ok toldAll_nil) (ToldsOK.cons (toldAll_cons TD.pLeft_ok toldAll_nil) ToldsOK.nil)) Go.Proofs.Try.func83 rfl TD.Fixed_eq (fun d => rfl)
theorem TD.Lpc_ok : ToldSound Go.Proofs.Try.prog 84 TD.Lpc := told_soundD fit (ToldsOK.cons (toldAll_cons TD.pMay_ok toldAll_nil) (ToldsOK.cons (toldAll_cons TD.pOf_ok toldAll_nil) (ToldsOK.cons (toldAll_cons TD.pLeft_ok toldAll_nil) ToldsOK.nil))) Go.Proofs.Try.func84 rfl TD.Lpc_eq (fun d => rfl)
theorem TD.residuals_ok : ToldSound Go.Proofs.Try.prog 33 TD.residuals := told_soundD fit (ToldsOK.cons (toldAll_cons TD.Fixed_ok toldAll_nil) (ToldsOK.cons (toldAll_cons TD.Lpc_ok toldAll_nil) ToldsOK.nil)) Go.Proofs.Try.func33 rfl TD.residuals_eq (fun d => rfl)
theorem TD.fold_ok : ToldSound Go.Proofs.Try.prog 134 TD.fold := told_soundD fit ToldsOK.nil Go.Proofs.Try.func134 rfl TD.fold_eq (fun d => rfl)
theorem TD.rcut_ok : ToldSound Go.Proofs.Try.prog 86 TD.rcut := told_soundD fit ToldsOK.nil Go.Proofs.Try.func86 rfl TD.rcut_eq (fun d => rfl)
theorem TD.Ric1_ok : ToldSound Go.Proofs.Try.prog 87 TD.Ric1 := told_soundD fit (ToldsOK.cons (toldAll_cons TD.fold_ok toldAll_nil) (ToldsOK.cons (toldAll_cons TD.una1_ok toldAll_nil) (ToldsOK.cons (toldAll_cons TD.lay1_ok toldAll_nil) ToldsOK.nil))) Go.Proofs.Try.func87 rfl TD.Ric1_eq (fun d => rfl)
theorem TD.rmay_ok : ToldSound Go.Proofs.Try.prog 85 TD.rmay := told_soundD fit (ToldsOK.cons (toldAll_cons TD.bNew_ok toldAll_nil) (ToldsOK.cons (toldAll_cons TD.sig1_ok toldAll_nil) ToldsOK.nil)) Go.Proofs.Try.func85 rfl TD.rmay_eq (fun d => rfl)
theorem TD.rEnc1_ok : ToldSound Go.Proofs.Try.prog 34 TD.rEnc1 := told_soundD fit (ToldsOK.cons (toldAll_cons TD.rCheck_ok toldAll_nil) (ToldsOK.cons (toldAll_cons TD.rcut_ok toldAll_nil) (ToldsOK.cons (toldAll_cons TD.rmay_ok toldAll_nil) (ToldsOK.cons (toldAll_cons TD.put1_ok toldAll_nil) (ToldsOK.cons (toldAll_cons TD.Ric1_ok toldAll_nil) (ToldsOK.cons (toldAll_cons TD.sig1_ok toldAll_nil) ToldsOK.nil)))))) Go.Proofs.Try.func34 rfl TD.rEnc1_eq (fun d => rfl)
theorem TD.encF_ok : ToldSound Go.Proofs.Try.prog 11 TD.encF := told_soundD fit (ToldsOK.cons (toldAll_cons TD.Check_ok toldAll_nil) (ToldsOK.cons (toldAll_cons TD.goes_ok toldAll_nil) (ToldsOK.cons (toldAll_cons TD.residuals_ok toldAll_nil) (ToldsOK.cons (toldAll_cons TD.bNew_ok toldAll_nil) (ToldsOK.cons (toldAll_cons TD.rEnc1_ok toldAll_nil) (ToldsOK.cons (toldAll_cons TD.put1_ok toldAll_nil) (ToldsOK.cons (toldAll_cons TD.Una1_ok toldAll_nil) (ToldsOK.cons (toldAll_cons TD.warm_ok toldAll_nil) (ToldsOK.cons (toldAll_cons TD.sig1_ok toldAll_nil) ToldsOK.nil))))))))) Go.Proofs.Try.func11 rfl TD.encF_eq (fun d => rfl)
end Go.Proofs.Ytfblaicifdgfiaa.Dg
end

section
set_option linter.unusedVariables false
set_option maxRecDepth 100000
namespace Go.Proofs.Ytfblaicifdgfiaa.Dg
open Go.LM
theorem TD.RiceR_ok : ToldSound Go.Proofs.Try.prog 156 TD.RiceR := told_soundD fit (ToldsOK.cons (toldAll_cons TD.UnaryR_ok toldAll_nil) (ToldsOK.cons (toldAll_cons TD.Get_ok toldAll_nil) ToldsOK.nil)) Go.Proofs.Try.func156 rfl TD.RiceR_eq (fun d => rfl)
theorem TD.part_ok : ToldSound Go.Proofs.Try.prog 140 TD.part := told_soundD fit (ToldsOK.cons (toldAll_cons TD.Get_ok toldAll_nil) (ToldsOK.cons (toldAll_cons TD.RiceR_ok toldAll_nil) (ToldsOK.cons (toldAll_cons TD.SignedR_ok toldAll_nil) ToldsOK.nil))) Go.Proofs.Try.func140 rfl TD.part_eq (fun d => rfl)
theorem TD.rDec_ok : ToldSound Go.Proofs.Try.prog 96 TD.rDec := told_soundD fit (ToldsOK.cons (toldAll_cons TD.Get_ok toldAll_nil) (ToldsOK.cons (toldAll_cons TD.rshape_ok toldAll_nil) (ToldsOK.cons (toldAll_cons TD.part_ok toldAll_nil) ToldsOK.nil))) Go.Proofs.Try.func96 rfl TD.rDec_eq (fun d => rfl)
theorem TD.pred1R_ok : ToldSound Go.Proofs.Try.prog 155 TD.pred1R := told_soundD fit ToldsOK.nil Go.Proofs.Try.func155 rfl TD.pred1R_eq (fun d => rfl)
theorem TD.r8Same_ok : ToldSound Go.Proofs.Try.prog 46 TD.r8Same := told_soundD fit ToldsOK.nil Go.Proofs.Try.func46 rfl TD.r8Same_eq (fun d => rfl)
theorem TD.r10Same_ok : ToldSound Go.Proofs.Try.prog 18 TD.r10Same := told_soundD fit (ToldsOK.cons (toldAll_cons TD.rInts_ok toldAll_nil) (ToldsOK.cons (toldAll_cons TD.r8Same_ok toldAll_nil) ToldsOK.nil)) Go.Proofs.Try.func18 rfl TD.r10Same_eq (fun d => rfl)
end Go.Proofs.Ytfblaicifdgfiaa.Dg
end

section
set_option linter.unusedVariables false
set_option maxRecDepth 100000
namespace Go.Proofs.Ytfblaicifdgfiaa.Dg
open Go.LM
theorem TD.whole_ok : ToldSound Go.Proofs.Try.prog 141 TD.whole := told_soundD fit (ToldsOK.cons (toldAll_cons TD.CloneR_ok toldAll_nil) (ToldsOK.cons (toldAll_cons TD.pred1R_ok (toldAll_cons TD.pred1_ok (toldAll_cons TD.pred1R_ok toldAll_nil))) ToldsOK.nil)) Go.Proofs.Try.func141 rfl TD.whole_eq (fun d => rfl)
theorem TD.Unfixed_ok : ToldSound Go.Proofs.Try.prog 97 TD.Unfixed := told_soundD fit (ToldsOK.cons (toldAll_cons TD.pFixed_ok toldAll_nil) (ToldsOK.cons (toldAll_cons TD.whole_ok toldAll_nil) ToldsOK.nil)) Go.Proofs.Try.func97 rfl TD.Unfixed_eq (fun d => rfl)
theorem TD.Unlpc_ok : ToldSound Go.Proofs.Try.prog 98 TD.Unlpc := told_soundD fit (ToldsOK.cons (toldAll_cons TD.pMay_ok toldAll_nil) (ToldsOK.cons (toldAll_cons TD.pOf_ok toldAll_nil) (ToldsOK.cons (toldAll_cons TD.whole_ok toldAll_nil) ToldsOK.nil))) Go.Proofs.Try.func98 rfl TD.Unlpc_eq (fun d => rfl)
theorem TD.bodyF_ok : ToldSound Go.Proofs.Try.prog 41 TD.bodyF := told_soundD fit (ToldsOK.cons (toldAll_cons TD.warm_ok toldAll_nil) (ToldsOK.cons (toldAll_cons TD.numbers_ok toldAll_nil) (ToldsOK.cons (toldAll_cons TD.RepI_ok toldAll_nil) (ToldsOK.cons (toldAll_cons TD.coefs_ok toldAll_nil) (ToldsOK.cons (toldAll_cons TD.rDec_ok toldAll_nil) (ToldsOK.cons (toldAll_cons TD.Unfixed_ok toldAll_nil) (ToldsOK.cons (toldAll_cons TD.Unlpc_ok toldAll_nil) ToldsOK.nil))))))) Go.Proofs.Try.func41 rfl TD.bodyF_eq (fun d => rfl)
theorem TD.DecodeF_ok : ToldSound Go.Proofs.Try.prog 16 TD.DecodeF := told_soundD fit (ToldsOK.cons (toldAll_cons TD.head_ok toldAll_nil) (ToldsOK.cons (toldAll_cons TD.bodyF_ok toldAll_nil) (ToldsOK.cons (toldAll_cons TD.dec1_ok toldAll_nil) (ToldsOK.cons (toldAll_cons TD.ConF_ok (toldAll_cons TD.ConG_ok toldAll_nil)) (ToldsOK.cons (toldAll_cons TD.Unshift_ok toldAll_nil) ToldsOK.nil))))) Go.Proofs.Try.func16 rfl TD.DecodeF_eq (fun d => rfl)
end Go.Proofs.Ytfblaicifdgfiaa.Dg
end

section
set_option linter.unusedVariables false
set_option maxRecDepth 100000
namespace Go.Proofs.Ytfblaicifdgfiaa.Dg
open Go.LM
theorem TD.SBack_ok : ToldSound Go.Proofs.Try.prog 4 TD.SBack := told_soundD fit (ToldsOK.cons (toldAll_cons TD.short_ok toldAll_nil) (ToldsOK.cons (toldAll_cons TD.awk_ok toldAll_nil) (ToldsOK.cons (toldAll_cons TD.bNew_ok toldAll_nil) (ToldsOK.cons (toldAll_cons TD.encF_ok toldAll_nil) (ToldsOK.cons (toldAll_cons TD.len1_ok toldAll_nil) (ToldsOK.cons (toldAll_cons TD.wBytes_ok toldAll_nil) (ToldsOK.cons (toldAll_cons TD.rOf_ok toldAll_nil) (ToldsOK.cons (toldAll_cons TD.DecodeF_ok toldAll_nil) (ToldsOK.cons (toldAll_cons TD.rInts_ok toldAll_nil) (ToldsOK.cons (toldAll_cons TD.r10Same_ok toldAll_nil) (ToldsOK.cons (toldAll_cons TD.AtR_ok toldAll_nil) ToldsOK.nil))))))))))) Go.Proofs.Try.func4 rfl TD.SBack_eq (fun d => rfl)
end Go.Proofs.Ytfblaicifdgfiaa.Dg
end

