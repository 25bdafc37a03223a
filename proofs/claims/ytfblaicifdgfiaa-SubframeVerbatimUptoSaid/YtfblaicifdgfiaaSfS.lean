/- SfS: SfPS SfCS SfDS SfES. -/
import Derived.Test.YtfblaicifdgfiaaAfF
import Derived.Test.YtfblaicifdgfiaaSfP
import Derived.Test.YtfblaicifdgfiaaSfC
import Derived.Test.YtfblaicifdgfiaaSfD
import Derived.Test.YtfblaicifdgfiaaSfE
section
set_option linter.unusedVariables false
set_option maxRecDepth 100000
namespace Go.Proofs.Ytfblaicifdgfiaa.Dg
open Go.LM
theorem TD.bNew_ok : ToldSound Go.Proofs.Try.prog 10 TD.bNew := told_soundD fit ToldsOK.nil Go.Proofs.Try.func10 rfl TD.bNew_eq (fun d => rfl)
theorem TD.at1_ok : ToldSound Go.Proofs.Try.prog 39 TD.at1 := told_soundD fit ToldsOK.nil Go.Proofs.Try.func39 rfl TD.at1_eq (fun d => rfl)
theorem TD.on1_ok : ToldSound Go.Proofs.Try.prog 136 TD.on1 := told_soundD fit ToldsOK.nil Go.Proofs.Try.func136 rfl TD.on1_eq (fun d => rfl)
theorem TD.bit1_ok : ToldSound Go.Proofs.Try.prog 135 TD.bit1 := told_soundD fit (ToldsOK.cons (toldAll_cons TD.at1_ok toldAll_nil) (ToldsOK.cons (toldAll_cons TD.on1_ok toldAll_nil) ToldsOK.nil)) Go.Proofs.Try.func135 rfl TD.bit1_eq (fun d => rfl)
theorem TD.lay1_ok : ToldSound Go.Proofs.Try.prog 88 TD.lay1 := told_soundD fit (ToldsOK.cons (toldAll_cons TD.bit1_ok toldAll_nil) ToldsOK.nil) Go.Proofs.Try.func88 rfl TD.lay1_eq (fun d => rfl)
theorem TD.put1_ok : ToldSound Go.Proofs.Try.prog 35 TD.put1 := told_soundD fit (ToldsOK.cons (toldAll_cons TD.lay1_ok toldAll_nil) ToldsOK.nil) Go.Proofs.Try.func35 rfl TD.put1_eq (fun d => rfl)
theorem TD.bfits_ok : ToldSound Go.Proofs.Try.prog 90 TD.bfits := told_soundD fit ToldsOK.nil Go.Proofs.Try.func90 rfl TD.bfits_eq (fun d => rfl)
theorem TD.sig1_ok : ToldSound Go.Proofs.Try.prog 38 TD.sig1 := told_soundD fit (ToldsOK.cons (toldAll_cons TD.bfits_ok toldAll_nil) (ToldsOK.cons (toldAll_cons TD.lay1_ok toldAll_nil) ToldsOK.nil)) Go.Proofs.Try.func38 rfl TD.sig1_eq (fun d => rfl)
theorem TD.una1_ok : ToldSound Go.Proofs.Try.prog 89 TD.una1 := told_soundD fit (ToldsOK.cons (toldAll_cons TD.at1_ok toldAll_nil) (ToldsOK.cons (toldAll_cons TD.on1_ok toldAll_nil) (ToldsOK.cons (toldAll_cons TD.bit1_ok toldAll_nil) ToldsOK.nil))) Go.Proofs.Try.func89 rfl TD.una1_eq (fun d => rfl)
theorem TD.Una1_ok : ToldSound Go.Proofs.Try.prog 36 TD.Una1 := told_soundD fit (ToldsOK.cons (toldAll_cons TD.una1_ok toldAll_nil) ToldsOK.nil) Go.Proofs.Try.func36 rfl TD.Una1_eq (fun d => rfl)
theorem TD.len1_ok : ToldSound Go.Proofs.Try.prog 12 TD.len1 := told_soundD fit (ToldsOK.cons (toldAll_cons TD.at1_ok toldAll_nil) ToldsOK.nil) Go.Proofs.Try.func12 rfl TD.len1_eq (fun d => rfl)
theorem TD.sfits_ok : ToldSound Go.Proofs.Try.prog 44 TD.sfits := told_soundD fit ToldsOK.nil Go.Proofs.Try.func44 rfl TD.sfits_eq (fun d => rfl)
theorem TD.bare_ok : ToldSound Go.Proofs.Try.prog 80 TD.bare := told_soundD fit ToldsOK.nil Go.Proofs.Try.func80 rfl TD.bare_eq (fun d => rfl)
theorem TD.warm_ok : ToldSound Go.Proofs.Try.prog 37 TD.warm := told_soundD fit ToldsOK.nil Go.Proofs.Try.func37 rfl TD.warm_eq (fun d => rfl)
theorem TD.Shift_ok : ToldSound Go.Proofs.Try.prog 82 TD.Shift := told_soundD fit ToldsOK.nil Go.Proofs.Try.func82 rfl TD.Shift_eq (fun d => rfl)
theorem TD.rshape_ok : ToldSound Go.Proofs.Try.prog 129 TD.rshape := told_soundD fit ToldsOK.nil Go.Proofs.Try.func129 rfl TD.rshape_eq (fun d => rfl)
theorem TD.rCheck_ok : ToldSound Go.Proofs.Try.prog 81 TD.rCheck := told_soundD fit (ToldsOK.cons (toldAll_cons TD.rshape_ok toldAll_nil) ToldsOK.nil) Go.Proofs.Try.func81 rfl TD.rCheck_eq (fun d => rfl)
theorem TD.chk1_ok : ToldSound Go.Proofs.Try.prog 79 TD.chk1 := told_soundD fit (ToldsOK.cons (toldAll_cons TD.sfits_ok toldAll_nil) ToldsOK.nil) Go.Proofs.Try.func79 rfl TD.chk1_eq (fun d => rfl)
theorem TD.IdxF_ok : ToldSound Go.Proofs.Try.prog 99 TD.IdxF := told_soundD fit (ToldsOK.cons (toldAll_cons TD.chk1_ok toldAll_nil) ToldsOK.nil) Go.Proofs.Try.func99 rfl TD.IdxF_eq (fun d => rfl)
theorem TD.ConF_ok : ToldSound Go.Proofs.Try.prog 42 TD.ConF := told_soundD fit (ToldsOK.cons (toldAll_cons TD.IdxF_ok toldAll_nil) (ToldsOK.cons (toldAll_cons TD.chk1_ok toldAll_nil) ToldsOK.nil)) Go.Proofs.Try.func42 rfl TD.ConF_eq (fun d => rfl)
theorem TD.Check_ok : ToldSound Go.Proofs.Try.prog 31 TD.Check := told_soundD fit (ToldsOK.cons (toldAll_cons TD.chk1_ok toldAll_nil) (ToldsOK.cons (toldAll_cons TD.ConF_ok toldAll_nil) (ToldsOK.cons (toldAll_cons TD.bare_ok toldAll_nil) (ToldsOK.cons (toldAll_cons TD.rCheck_ok toldAll_nil) ToldsOK.nil)))) Go.Proofs.Try.func31 rfl TD.Check_eq (fun d => rfl)
theorem TD.goes_ok : ToldSound Go.Proofs.Try.prog 32 TD.goes := told_soundD fit (ToldsOK.cons (toldAll_cons TD.sfits_ok toldAll_nil) (ToldsOK.cons (toldAll_cons TD.Shift_ok toldAll_nil) ToldsOK.nil)) Go.Proofs.Try.func32 rfl TD.goes_eq (fun d => rfl)
end Go.Proofs.Ytfblaicifdgfiaa.Dg
end

section
set_option linter.unusedVariables false
set_option maxRecDepth 100000
namespace Go.Proofs.Ytfblaicifdgfiaa.Dg
open Go.LM
end Go.Proofs.Ytfblaicifdgfiaa.Dg
end

section
set_option linter.unusedVariables false
set_option maxRecDepth 100000
namespace Go.Proofs.Ytfblaicifdgfiaa.Dg
open Go.LM
theorem TD.enc1_ok : ToldSound Go.Proofs.Try.prog 11 TD.enc1 := told_soundD fit (ToldsOK.cons (toldAll_cons TD.Check_ok toldAll_nil) (ToldsOK.cons (toldAll_cons TD.goes_ok toldAll_nil) (ToldsOK.cons (toldAll_cons TD.bNew_ok toldAll_nil) (ToldsOK.cons (toldAll_cons TD.put1_ok toldAll_nil) (ToldsOK.cons (toldAll_cons TD.Una1_ok toldAll_nil) (ToldsOK.cons (toldAll_cons TD.warm_ok toldAll_nil) (ToldsOK.cons (toldAll_cons TD.sig1_ok toldAll_nil) ToldsOK.nil))))))) Go.Proofs.Try.func11 rfl TD.enc1_eq (fun d => rfl)
end Go.Proofs.Ytfblaicifdgfiaa.Dg
end

section
set_option linter.unusedVariables false
set_option maxRecDepth 100000
namespace Go.Proofs.Ytfblaicifdgfiaa.Dg
open Go.LM
theorem TD.SVerb_ok : ToldSound Go.Proofs.Try.prog 3 TD.SVerb := told_soundD fit (ToldsOK.cons (toldAll_cons TD.awk_ok toldAll_nil) (ToldsOK.cons (toldAll_cons TD.bNew_ok toldAll_nil) (ToldsOK.cons (toldAll_cons TD.enc1_ok toldAll_nil) (ToldsOK.cons (toldAll_cons TD.len1_ok toldAll_nil) ToldsOK.nil)))) Go.Proofs.Try.func3 rfl TD.SVerb_eq (fun d => rfl)
end Go.Proofs.Ytfblaicifdgfiaa.Dg
end

