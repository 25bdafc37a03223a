/- RfS: RfS. -/
import Derived.Test.YtjjeohcohhhcpaaRfW
import Derived.Test.YtjjeohcohhhcpaaLmH
section
set_option linter.unusedVariables false
set_option maxRecDepth 100000
namespace Go.Proofs.Ytjjeohcohhhcpaa.Dg
open Go.LM
theorem TD.r2_fits_ok : ToldSound Go.Proofs.Try.prog 63 TD.r2_fits := told_soundD fit ToldsOK.nil Go.Proofs.Try.func63 rfl TD.r2_fits_eq (fun d => rfl)
theorem TD.r2_turned_ok : ToldSound Go.Proofs.Try.prog 62 TD.r2_turned := told_soundD fit ToldsOK.nil Go.Proofs.Try.func62 rfl TD.r2_turned_eq (fun d => rfl)
theorem TD.r2_Be_ok : ToldSound Go.Proofs.Try.prog 50 TD.r2_Be := told_soundD fit (ToldsOK.cons (toldAll_cons TD.r2_fits_ok toldAll_nil) ToldsOK.nil) Go.Proofs.Try.func50 rfl TD.r2_Be_eq (fun d => rfl)
theorem TD.r2_Le_ok : ToldSound Go.Proofs.Try.prog 49 TD.r2_Le := told_soundD fit (ToldsOK.cons (toldAll_cons TD.r2_Be_ok toldAll_nil) (ToldsOK.cons (toldAll_cons TD.r2_turned_ok toldAll_nil) ToldsOK.nil)) Go.Proofs.Try.func49 rfl TD.r2_Le_eq (fun d => rfl)
theorem TD.r2_FromBe_ok : ToldSound Go.Proofs.Try.prog 60 TD.r2_FromBe := told_soundD fit ToldsOK.nil Go.Proofs.Try.func60 rfl TD.r2_FromBe_eq (fun d => rfl)
theorem TD.r2_FromLe_ok : ToldSound Go.Proofs.Try.prog 61 TD.r2_FromLe := told_soundD fit (ToldsOK.cons (toldAll_cons TD.r2_turned_ok toldAll_nil) (ToldsOK.cons (toldAll_cons TD.r2_FromBe_ok toldAll_nil) ToldsOK.nil)) Go.Proofs.Try.func61 rfl TD.r2_FromLe_eq (fun d => rfl)
theorem TD.bytes_Le_ok : ToldSound Go.Proofs.Try.prog 26 TD.bytes_Le := told_soundD fit ToldsOK.nil Go.Proofs.Try.func26 rfl TD.bytes_Le_eq (fun d => rfl)
theorem TD.bytes_turn_ok : ToldSound Go.Proofs.Try.prog 52 TD.bytes_turn := told_soundD fit ToldsOK.nil Go.Proofs.Try.func52 rfl TD.bytes_turn_eq (fun d => rfl)
theorem TD.bytes_Be_ok : ToldSound Go.Proofs.Try.prog 41 TD.bytes_Be := told_soundD fit (ToldsOK.cons (toldAll_cons TD.bytes_Le_ok toldAll_nil) (ToldsOK.cons (toldAll_cons TD.bytes_turn_ok toldAll_nil) ToldsOK.nil)) Go.Proofs.Try.func41 rfl TD.bytes_Be_eq (fun d => rfl)
theorem TD.bytes_FromBe_ok : ToldSound Go.Proofs.Try.prog 51 TD.bytes_FromBe := told_soundD fit ToldsOK.nil Go.Proofs.Try.func51 rfl TD.bytes_FromBe_eq (fun d => rfl)
theorem TD.bytes_FromLe_ok : ToldSound Go.Proofs.Try.prog 35 TD.bytes_FromLe := told_soundD fit (ToldsOK.cons (toldAll_cons TD.bytes_turn_ok toldAll_nil) (ToldsOK.cons (toldAll_cons TD.bytes_FromBe_ok toldAll_nil) ToldsOK.nil)) Go.Proofs.Try.func35 rfl TD.bytes_FromLe_eq (fun d => rfl)
theorem TD.name_ok : ToldSound Go.Proofs.Try.prog 40 TD.name := told_soundD fit ToldsOK.nil Go.Proofs.Try.func40 rfl TD.name_eq (fun d => rfl)
theorem TD.length_ok : ToldSound Go.Proofs.Try.prog 47 TD.length := told_soundD fit (ToldsOK.cons (toldAll_cons TD.bytes_FromBe_ok toldAll_nil) (ToldsOK.cons (toldAll_cons TD.bytes_FromLe_ok toldAll_nil) ToldsOK.nil)) Go.Proofs.Try.func47 rfl TD.length_eq (fun d => rfl)
theorem TD.take_ok : ToldSound Go.Proofs.Try.prog 31 TD.take := told_soundD fit (ToldsOK.cons (toldAll_cons TD.name_ok toldAll_nil) (ToldsOK.cons (toldAll_cons TD.length_ok toldAll_nil) ToldsOK.nil)) Go.Proofs.Try.func31 rfl TD.take_eq (fun d => rfl)
theorem TD.Chunks_ok : ToldSound Go.Proofs.Try.prog 13 TD.Chunks := told_soundD fit (ToldsOK.cons (toldAll_cons TD.take_ok toldAll_nil) ToldsOK.nil) Go.Proofs.Try.func13 rfl TD.Chunks_eq (fun d => rfl)
theorem TD.lay_ok : ToldSound Go.Proofs.Try.prog 25 TD.lay := told_soundD fit (ToldsOK.cons (toldAll_cons TD.name_ok toldAll_nil) (ToldsOK.cons (toldAll_cons TD.bytes_Le_ok toldAll_nil) (ToldsOK.cons (toldAll_cons TD.bytes_Be_ok toldAll_nil) ToldsOK.nil))) Go.Proofs.Try.func25 rfl TD.lay_eq (fun d => rfl)
theorem TD.lay0_ok : ToldSound Go.Proofs.Try.prog 25 TD.lay0 := told_soundD fit (ToldsOK.cons (toldAll_cons TD.name_ok toldAll_nil) (ToldsOK.cons (toldAll_cons TD.bytes_Le_ok toldAll_nil) (ToldsOK.cons (toldAll_cons TD.bytes_Be_ok toldAll_nil) ToldsOK.nil))) Go.Proofs.Try.func25 rfl TD.lay0_eq (fun d => rfl)
theorem TD.Lay_ok : ToldSound Go.Proofs.Try.prog 15 TD.Lay := told_soundD fit (ToldsOK.cons (toldAll_cons TD.lay_ok (toldAll_cons TD.lay0_ok toldAll_nil)) ToldsOK.nil) Go.Proofs.Try.func15 rfl TD.Lay_eq (fun d => rfl)
theorem TD.r6_Id_ok : ToldSound Go.Proofs.Try.prog 33 TD.r6_Id := told_soundD fit ToldsOK.nil Go.Proofs.Try.func33 rfl TD.r6_Id_eq (fun d => rfl)
theorem TD.r6_from_ok : ToldSound Go.Proofs.Try.prog 48 TD.r6_from := told_soundD fit (ToldsOK.cons (toldAll_cons TD.r2_FromBe_ok toldAll_nil) (ToldsOK.cons (toldAll_cons TD.r2_FromLe_ok toldAll_nil) ToldsOK.nil)) Go.Proofs.Try.func48 rfl TD.r6_from_eq (fun d => rfl)
theorem TD.r6_to_ok : ToldSound Go.Proofs.Try.prog 34 TD.r6_to := told_soundD fit (ToldsOK.cons (toldAll_cons TD.r2_Le_ok toldAll_nil) (ToldsOK.cons (toldAll_cons TD.r2_Be_ok toldAll_nil) ToldsOK.nil)) Go.Proofs.Try.func34 rfl TD.r6_to_eq (fun d => rfl)
theorem TD.r6_one_ok : ToldSound Go.Proofs.Try.prog 32 TD.r6_one := told_soundD fit (ToldsOK.cons (toldAll_cons TD.r6_Id_ok toldAll_nil) (ToldsOK.cons (toldAll_cons TD.r6_from_ok toldAll_nil) ToldsOK.nil)) Go.Proofs.Try.func32 rfl TD.r6_one_eq (fun d => rfl)
theorem TD.r6_Chunks_ok : ToldSound Go.Proofs.Try.prog 14 TD.r6_Chunks := told_soundD fit (ToldsOK.cons (toldAll_cons TD.r6_one_ok toldAll_nil) ToldsOK.nil) Go.Proofs.Try.func14 rfl TD.r6_Chunks_eq (fun d => rfl)
theorem TD.r6_Lay_ok : ToldSound Go.Proofs.Try.prog 16 TD.r6_Lay := told_soundD fit (ToldsOK.cons (toldAll_cons TD.r6_Id_ok toldAll_nil) (ToldsOK.cons (toldAll_cons TD.r6_to_ok toldAll_nil) ToldsOK.nil)) Go.Proofs.Try.func16 rfl TD.r6_Lay_eq (fun d => rfl)
theorem TD.r6_SameChunks_ok : ToldSound Go.Proofs.Try.prog 17 TD.r6_SameChunks := told_soundD fit ToldsOK.nil Go.Proofs.Try.func17 rfl TD.r6_SameChunks_eq (fun d => rfl)
theorem TD.r6_Same_ok : ToldSound Go.Proofs.Try.prog 12 TD.r6_Same := told_soundD fit (ToldsOK.cons (toldAll_cons TD.r6_SameChunks_ok toldAll_nil) ToldsOK.nil) Go.Proofs.Try.func12 rfl TD.r6_Same_eq (fun d => rfl)
theorem TD.le_ok : ToldSound Go.Proofs.Try.prog 18 TD.le := told_soundD fit (ToldsOK.cons (toldAll_cons TD.bytes_FromLe_ok toldAll_nil) ToldsOK.nil) Go.Proofs.Try.func18 rfl TD.le_eq (fun d => rfl)
theorem TD.layout_ok : ToldSound Go.Proofs.Try.prog 24 TD.layout := told_soundD fit ToldsOK.nil Go.Proofs.Try.func24 rfl TD.layout_eq (fun d => rfl)
theorem TD.format_ok : ToldSound Go.Proofs.Try.prog 54 TD.format := told_soundD fit (ToldsOK.cons (toldAll_cons TD.le_ok toldAll_nil) ToldsOK.nil) Go.Proofs.Try.func54 rfl TD.format_eq (fun d => rfl)
end Go.Proofs.Ytjjeohcohhhcpaa.Dg
end

