/- RfLS: RfLS. -/
import Derived.Test.YtjjeohcohhhcpaaRfL
import Derived.Test.YtjjeohcohhhcpaaRfS
section
set_option linter.unusedVariables false
set_option maxRecDepth 100000
namespace Go.Proofs.Ytjjeohcohhhcpaa.Dg
open Go.LM
theorem TD.pcm_Len_ok : ToldSound Go.Proofs.Try.prog 39 TD.pcm_Len := told_soundD fit ToldsOK.nil Go.Proofs.Try.func39 rfl TD.pcm_Len_eq (fun d => rfl)
theorem TD.pcm_in_ok : ToldSound Go.Proofs.Try.prog 57 TD.pcm_in := told_soundD fit ToldsOK.nil Go.Proofs.Try.func57 rfl TD.pcm_in_eq (fun d => rfl)
theorem TD.r5_Sample_ok : ToldSound Go.Proofs.Try.prog 45 TD.r5_Sample := told_soundD fit ToldsOK.nil Go.Proofs.Try.func45 rfl TD.r5_Sample_eq (fun d => rfl)
theorem TD.r5_Len_ok : ToldSound Go.Proofs.Try.prog 44 TD.r5_Len := told_soundD fit ToldsOK.nil Go.Proofs.Try.func44 rfl TD.r5_Len_eq (fun d => rfl)
theorem TD.pcm_kind_ok : ToldSound Go.Proofs.Try.prog 55 TD.pcm_kind := told_soundD fit ToldsOK.nil Go.Proofs.Try.func55 rfl TD.pcm_kind_eq (fun d => rfl)
theorem TD.pcm_sample_ok : ToldSound Go.Proofs.Try.prog 56 TD.pcm_sample := told_soundD fit ToldsOK.nil Go.Proofs.Try.func56 rfl TD.pcm_sample_eq (fun d => rfl)
theorem TD.chk1_ok : ToldSound Go.Proofs.Try.prog 59 TD.chk1 := told_soundD fit (ToldsOK.cons (toldAll_cons TD.pcm_in_ok toldAll_nil) ToldsOK.nil) Go.Proofs.Try.func59 rfl TD.chk1_eq (fun d => rfl)
theorem TD.each_ok : ToldSound Go.Proofs.Try.prog 58 TD.each := told_soundD fit (ToldsOK.cons (toldAll_cons TD.chk1_ok toldAll_nil) ToldsOK.nil) Go.Proofs.Try.func58 rfl TD.each_eq (fun d => rfl)
theorem TD.pcm_Check_ok : ToldSound Go.Proofs.Try.prog 38 TD.pcm_Check := told_soundD fit (ToldsOK.cons (toldAll_cons TD.pcm_kind_ok toldAll_nil) (ToldsOK.cons (toldAll_cons TD.chk1_ok toldAll_nil) (ToldsOK.cons (toldAll_cons TD.each_ok toldAll_nil) (ToldsOK.cons (toldAll_cons TD.pcm_Len_ok toldAll_nil) ToldsOK.nil)))) Go.Proofs.Try.func38 rfl TD.pcm_Check_eq (fun d => rfl)
theorem TD.r5_Check_ok : ToldSound Go.Proofs.Try.prog 29 TD.r5_Check := told_soundD fit (ToldsOK.cons (toldAll_cons TD.r5_Len_ok toldAll_nil) (ToldsOK.cons (toldAll_cons TD.r5_Sample_ok toldAll_nil) ToldsOK.nil)) Go.Proofs.Try.func29 rfl TD.r5_Check_eq (fun d => rfl)
theorem TD.pcm_Fits_ok : ToldSound Go.Proofs.Try.prog 22 TD.pcm_Fits := told_soundD fit (ToldsOK.cons (toldAll_cons TD.pcm_Check_ok toldAll_nil) ToldsOK.nil) Go.Proofs.Try.func22 rfl TD.pcm_Fits_eq (fun d => rfl)
theorem TD.r5_Fits_ok : ToldSound Go.Proofs.Try.prog 9 TD.r5_Fits := told_soundD fit (ToldsOK.cons (toldAll_cons TD.r5_Check_ok toldAll_nil) ToldsOK.nil) Go.Proofs.Try.func9 rfl TD.r5_Fits_eq (fun d => rfl)
theorem TD.r5_Ints_ok : ToldSound Go.Proofs.Try.prog 46 TD.r5_Ints := told_soundD fit ToldsOK.nil Go.Proofs.Try.func46 rfl TD.r5_Ints_eq (fun d => rfl)
theorem TD.r5_SamePlanes_ok : ToldSound Go.Proofs.Try.prog 30 TD.r5_SamePlanes := told_soundD fit (ToldsOK.cons (toldAll_cons TD.r5_Ints_ok toldAll_nil) ToldsOK.nil) Go.Proofs.Try.func30 rfl TD.r5_SamePlanes_eq (fun d => rfl)
theorem TD.r5_Same_ok : ToldSound Go.Proofs.Try.prog 11 TD.r5_Same := told_soundD fit (ToldsOK.cons (toldAll_cons TD.r5_SamePlanes_ok toldAll_nil) ToldsOK.nil) Go.Proofs.Try.func11 rfl TD.r5_Same_eq (fun d => rfl)
theorem TD.slices_Equal_ok : ToldSound Go.Proofs.Try.prog 43 TD.slices_Equal := told_soundD fit ToldsOK.nil Go.Proofs.Try.func43 rfl TD.slices_Equal_eq (fun d => rfl)
theorem TD.EqualFunc_ok : ToldSound Go.Proofs.Try.prog 42 TD.EqualFunc := told_soundD fit (ToldsOK.cons (toldAll_cons TD.slices_Equal_ok toldAll_nil) ToldsOK.nil) Go.Proofs.Try.func42 rfl TD.EqualFunc_eq (fun d => rfl)
theorem TD.pcm_Same_ok : ToldSound Go.Proofs.Try.prog 27 TD.pcm_Same := told_soundD fit (ToldsOK.cons (toldAll_cons TD.EqualFunc_ok toldAll_nil) (ToldsOK.cons (toldAll_cons TD.slices_Equal_ok toldAll_nil) ToldsOK.nil)) Go.Proofs.Try.func27 rfl TD.pcm_Same_eq (fun d => rfl)
theorem TD.pcm_Pack_ok : ToldSound Go.Proofs.Try.prog 23 TD.pcm_Pack := told_soundD fit (ToldsOK.cons (toldAll_cons TD.pcm_Check_ok toldAll_nil) (ToldsOK.cons (toldAll_cons TD.pcm_Len_ok toldAll_nil) ToldsOK.nil)) Go.Proofs.Try.func23 rfl TD.pcm_Pack_eq (fun d => rfl)
theorem TD.pcm_Unpack_ok : ToldSound Go.Proofs.Try.prog 37 TD.pcm_Unpack := told_soundD fit (ToldsOK.cons (toldAll_cons TD.pcm_kind_ok toldAll_nil) (ToldsOK.cons (toldAll_cons TD.pcm_sample_ok toldAll_nil) (ToldsOK.cons (toldAll_cons TD.pcm_in_ok toldAll_nil) ToldsOK.nil))) Go.Proofs.Try.func37 rfl TD.pcm_Unpack_eq (fun d => rfl)
theorem TD.eqChunks_ok : ToldSound Go.Proofs.Try.prog 28 TD.eqChunks := told_soundD fit ToldsOK.nil Go.Proofs.Try.func28 rfl TD.eqChunks_eq (fun d => rfl)
theorem TD.sizes_ok : ToldSound Go.Proofs.Try.prog 53 TD.sizes := told_soundD fit (ToldsOK.cons (toldAll_cons TD.le_ok toldAll_nil) ToldsOK.nil) Go.Proofs.Try.func53 rfl TD.sizes_eq (fun d => rfl)
theorem TD.chunk_ok : ToldSound Go.Proofs.Try.prog 36 TD.chunk := told_soundD fit (ToldsOK.cons (toldAll_cons TD.sizes_ok toldAll_nil) (ToldsOK.cons (toldAll_cons TD.format_ok toldAll_nil) ToldsOK.nil)) Go.Proofs.Try.func36 rfl TD.chunk_eq (fun d => rfl)
theorem TD.next_ok : ToldSound Go.Proofs.Try.prog 19 TD.next := told_soundD fit (ToldsOK.cons (toldAll_cons TD.take_ok toldAll_nil) (ToldsOK.cons (toldAll_cons TD.chunk_ok toldAll_nil) ToldsOK.nil)) Go.Proofs.Try.func19 rfl TD.next_eq (fun d => rfl)
theorem TD.end__ok : ToldSound Go.Proofs.Try.prog 20 TD.end_ := told_soundD fit (ToldsOK.cons (toldAll_cons TD.layout_ok toldAll_nil) (ToldsOK.cons (toldAll_cons TD.pcm_Unpack_ok toldAll_nil) ToldsOK.nil)) Go.Proofs.Try.func20 rfl TD.end__eq (fun d => rfl)
theorem TD.sizes0_ok : ToldSound Go.Proofs.Try.prog 53 TD.sizes0 := told_soundD fit (ToldsOK.cons (toldAll_cons TD.le_ok toldAll_nil) ToldsOK.nil) Go.Proofs.Try.func53 rfl TD.sizes0_eq (fun d => rfl)
theorem TD.chunk0_ok : ToldSound Go.Proofs.Try.prog 36 TD.chunk0 := told_soundD fit (ToldsOK.cons (toldAll_cons TD.sizes_ok (toldAll_cons TD.sizes0_ok toldAll_nil)) (ToldsOK.cons (toldAll_cons TD.format_ok toldAll_nil) ToldsOK.nil)) Go.Proofs.Try.func36 rfl TD.chunk0_eq (fun d => rfl)
theorem TD.next0_ok : ToldSound Go.Proofs.Try.prog 19 TD.next0 := told_soundD fit (ToldsOK.cons (toldAll_cons TD.take_ok toldAll_nil) (ToldsOK.cons (toldAll_cons TD.chunk_ok (toldAll_cons TD.chunk0_ok toldAll_nil)) ToldsOK.nil)) Go.Proofs.Try.func19 rfl TD.next0_eq (fun d => rfl)
theorem TD.Parse_ok : ToldSound Go.Proofs.Try.prog 6 TD.Parse := told_soundD fit (ToldsOK.cons (toldAll_cons TD.le_ok toldAll_nil) (ToldsOK.cons (toldAll_cons TD.next_ok (toldAll_cons TD.next0_ok toldAll_nil)) (ToldsOK.cons (toldAll_cons TD.end__ok toldAll_nil) ToldsOK.nil))) Go.Proofs.Try.func6 rfl TD.Parse_eq (fun d => rfl)
theorem TD.Plain_ok : ToldSound Go.Proofs.Try.prog 10 TD.Plain := told_soundD fit (ToldsOK.cons (toldAll_cons TD.pcm_Fits_ok toldAll_nil) (ToldsOK.cons (toldAll_cons TD.bytes_Le_ok toldAll_nil) ToldsOK.nil)) Go.Proofs.Try.func10 rfl TD.Plain_eq (fun d => rfl)
theorem TD.Build_ok : ToldSound Go.Proofs.Try.prog 8 TD.Build := told_soundD fit (ToldsOK.cons (toldAll_cons TD.pcm_Fits_ok toldAll_nil) (ToldsOK.cons (toldAll_cons TD.layout_ok toldAll_nil) (ToldsOK.cons (toldAll_cons TD.pcm_Pack_ok toldAll_nil) (ToldsOK.cons (toldAll_cons TD.lay_ok (toldAll_cons TD.lay0_ok toldAll_nil)) (ToldsOK.cons (toldAll_cons TD.bytes_Le_ok toldAll_nil) (ToldsOK.cons (toldAll_cons TD.Parse_ok toldAll_nil) (ToldsOK.cons (toldAll_cons TD.pcm_Same_ok toldAll_nil) (ToldsOK.cons (toldAll_cons TD.eqChunks_ok toldAll_nil) ToldsOK.nil)))))))) Go.Proofs.Try.func8 rfl TD.Build_eq (fun d => rfl)
end Go.Proofs.Ytjjeohcohhhcpaa.Dg
end

