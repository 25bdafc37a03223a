/- AfS: AfPS AfQS AfRS. -/
import Derived.Test.YtfblaicifdgfiaaAfP
import Derived.Test.YtfblaicifdgfiaaAfF
import Derived.Test.YtfblaicifdgfiaaAfQa
import Derived.Test.YtfblaicifdgfiaaAfR
import Derived.Test.YtfblaicifdgfiaaAfRp
section
set_option linter.unusedVariables false
set_option maxRecDepth 100000
namespace Go.Proofs.Ytfblaicifdgfiaa.Dg
open Go.LM
theorem TD.r2_fits_ok : ToldSound Go.Proofs.Try.prog 122 TD.r2_fits := told_soundD fit ToldsOK.nil Go.Proofs.Try.func122 rfl TD.r2_fits_eq (fun d => rfl)
theorem TD.r2_turned_ok : ToldSound Go.Proofs.Try.prog 145 TD.r2_turned := told_soundD fit ToldsOK.nil Go.Proofs.Try.func145 rfl TD.r2_turned_eq (fun d => rfl)
theorem TD.r2_Be_ok : ToldSound Go.Proofs.Try.prog 72 TD.r2_Be := told_soundD fit (ToldsOK.cons (toldAll_cons TD.r2_fits_ok toldAll_nil) ToldsOK.nil) Go.Proofs.Try.func72 rfl TD.r2_Be_eq (fun d => rfl)
theorem TD.r2_Le_ok : ToldSound Go.Proofs.Try.prog 119 TD.r2_Le := told_soundD fit (ToldsOK.cons (toldAll_cons TD.r2_Be_ok toldAll_nil) (ToldsOK.cons (toldAll_cons TD.r2_turned_ok toldAll_nil) ToldsOK.nil)) Go.Proofs.Try.func119 rfl TD.r2_Le_eq (fun d => rfl)
theorem TD.r2_FromBe_ok : ToldSound Go.Proofs.Try.prog 54 TD.r2_FromBe := told_soundD fit ToldsOK.nil Go.Proofs.Try.func54 rfl TD.r2_FromBe_eq (fun d => rfl)
theorem TD.r2_FromLe_ok : ToldSound Go.Proofs.Try.prog 111 TD.r2_FromLe := told_soundD fit (ToldsOK.cons (toldAll_cons TD.r2_turned_ok toldAll_nil) (ToldsOK.cons (toldAll_cons TD.r2_FromBe_ok toldAll_nil) ToldsOK.nil)) Go.Proofs.Try.func111 rfl TD.r2_FromLe_eq (fun d => rfl)
theorem TD.bytes_Le_ok : ToldSound Go.Proofs.Try.prog 117 TD.bytes_Le := told_soundD fit ToldsOK.nil Go.Proofs.Try.func117 rfl TD.bytes_Le_eq (fun d => rfl)
theorem TD.bytes_turn_ok : ToldSound Go.Proofs.Try.prog 118 TD.bytes_turn := told_soundD fit ToldsOK.nil Go.Proofs.Try.func118 rfl TD.bytes_turn_eq (fun d => rfl)
theorem TD.bytes_Be_ok : ToldSound Go.Proofs.Try.prog 69 TD.bytes_Be := told_soundD fit (ToldsOK.cons (toldAll_cons TD.bytes_Le_ok toldAll_nil) (ToldsOK.cons (toldAll_cons TD.bytes_turn_ok toldAll_nil) ToldsOK.nil)) Go.Proofs.Try.func69 rfl TD.bytes_Be_eq (fun d => rfl)
theorem TD.bytes_FromBe_ok : ToldSound Go.Proofs.Try.prog 49 TD.bytes_FromBe := told_soundD fit ToldsOK.nil Go.Proofs.Try.func49 rfl TD.bytes_FromBe_eq (fun d => rfl)
theorem TD.bytes_FromLe_ok : ToldSound Go.Proofs.Try.prog 157 TD.bytes_FromLe := told_soundD fit (ToldsOK.cons (toldAll_cons TD.bytes_turn_ok toldAll_nil) (ToldsOK.cons (toldAll_cons TD.bytes_FromBe_ok toldAll_nil) ToldsOK.nil)) Go.Proofs.Try.func157 rfl TD.bytes_FromLe_eq (fun d => rfl)
theorem TD.name_ok : ToldSound Go.Proofs.Try.prog 142 TD.name := told_soundD fit ToldsOK.nil Go.Proofs.Try.func142 rfl TD.name_eq (fun d => rfl)
theorem TD.length_ok : ToldSound Go.Proofs.Try.prog 143 TD.length := told_soundD fit (ToldsOK.cons (toldAll_cons TD.bytes_FromBe_ok toldAll_nil) (ToldsOK.cons (toldAll_cons TD.bytes_FromLe_ok toldAll_nil) ToldsOK.nil)) Go.Proofs.Try.func143 rfl TD.length_eq (fun d => rfl)
theorem TD.take_ok : ToldSound Go.Proofs.Try.prog 101 TD.take := told_soundD fit (ToldsOK.cons (toldAll_cons TD.name_ok toldAll_nil) (ToldsOK.cons (toldAll_cons TD.length_ok toldAll_nil) ToldsOK.nil)) Go.Proofs.Try.func101 rfl TD.take_eq (fun d => rfl)
theorem TD.Chunks_ok : ToldSound Go.Proofs.Try.prog 50 TD.Chunks := told_soundD fit (ToldsOK.cons (toldAll_cons TD.take_ok toldAll_nil) ToldsOK.nil) Go.Proofs.Try.func50 rfl TD.Chunks_eq (fun d => rfl)
theorem TD.lay_ok : ToldSound Go.Proofs.Try.prog 116 TD.lay := told_soundD fit (ToldsOK.cons (toldAll_cons TD.name_ok toldAll_nil) (ToldsOK.cons (toldAll_cons TD.bytes_Le_ok toldAll_nil) (ToldsOK.cons (toldAll_cons TD.bytes_Be_ok toldAll_nil) ToldsOK.nil))) Go.Proofs.Try.func116 rfl TD.lay_eq (fun d => rfl)
theorem TD.lay0_ok : ToldSound Go.Proofs.Try.prog 116 TD.lay0 := told_soundD fit (ToldsOK.cons (toldAll_cons TD.name_ok toldAll_nil) (ToldsOK.cons (toldAll_cons TD.bytes_Le_ok toldAll_nil) (ToldsOK.cons (toldAll_cons TD.bytes_Be_ok toldAll_nil) ToldsOK.nil))) Go.Proofs.Try.func116 rfl TD.lay0_eq (fun d => rfl)
theorem TD.Lay_ok : ToldSound Go.Proofs.Try.prog 68 TD.Lay := told_soundD fit (ToldsOK.cons (toldAll_cons TD.lay_ok (toldAll_cons TD.lay0_ok toldAll_nil)) ToldsOK.nil) Go.Proofs.Try.func68 rfl TD.Lay_eq (fun d => rfl)
theorem TD.r6_Id_ok : ToldSound Go.Proofs.Try.prog 120 TD.r6_Id := told_soundD fit ToldsOK.nil Go.Proofs.Try.func120 rfl TD.r6_Id_eq (fun d => rfl)
theorem TD.r6_from_ok : ToldSound Go.Proofs.Try.prog 144 TD.r6_from := told_soundD fit (ToldsOK.cons (toldAll_cons TD.r2_FromBe_ok toldAll_nil) (ToldsOK.cons (toldAll_cons TD.r2_FromLe_ok toldAll_nil) ToldsOK.nil)) Go.Proofs.Try.func144 rfl TD.r6_from_eq (fun d => rfl)
theorem TD.r6_to_ok : ToldSound Go.Proofs.Try.prog 121 TD.r6_to := told_soundD fit (ToldsOK.cons (toldAll_cons TD.r2_Le_ok toldAll_nil) (ToldsOK.cons (toldAll_cons TD.r2_Be_ok toldAll_nil) ToldsOK.nil)) Go.Proofs.Try.func121 rfl TD.r6_to_eq (fun d => rfl)
theorem TD.r6_one_ok : ToldSound Go.Proofs.Try.prog 109 TD.r6_one := told_soundD fit (ToldsOK.cons (toldAll_cons TD.r6_Id_ok toldAll_nil) (ToldsOK.cons (toldAll_cons TD.r6_from_ok toldAll_nil) ToldsOK.nil)) Go.Proofs.Try.func109 rfl TD.r6_one_eq (fun d => rfl)
theorem TD.r6_Chunks_ok : ToldSound Go.Proofs.Try.prog 55 TD.r6_Chunks := told_soundD fit (ToldsOK.cons (toldAll_cons TD.r6_one_ok toldAll_nil) ToldsOK.nil) Go.Proofs.Try.func55 rfl TD.r6_Chunks_eq (fun d => rfl)
theorem TD.r6_Lay_ok : ToldSound Go.Proofs.Try.prog 71 TD.r6_Lay := told_soundD fit (ToldsOK.cons (toldAll_cons TD.r6_Id_ok toldAll_nil) (ToldsOK.cons (toldAll_cons TD.r6_to_ok toldAll_nil) ToldsOK.nil)) Go.Proofs.Try.func71 rfl TD.r6_Lay_eq (fun d => rfl)
theorem TD.r6_SameChunks_ok : ToldSound Go.Proofs.Try.prog 60 TD.r6_SameChunks := told_soundD fit ToldsOK.nil Go.Proofs.Try.func60 rfl TD.r6_SameChunks_eq (fun d => rfl)
theorem TD.pcm_Len_ok : ToldSound Go.Proofs.Try.prog 73 TD.pcm_Len := told_soundD fit ToldsOK.nil Go.Proofs.Try.func73 rfl TD.pcm_Len_eq (fun d => rfl)
theorem TD.pcm_in_ok : ToldSound Go.Proofs.Try.prog 108 TD.pcm_in := told_soundD fit ToldsOK.nil Go.Proofs.Try.func108 rfl TD.pcm_in_eq (fun d => rfl)
theorem TD.r5_Sample_ok : ToldSound Go.Proofs.Try.prog 112 TD.r5_Sample := told_soundD fit ToldsOK.nil Go.Proofs.Try.func112 rfl TD.r5_Sample_eq (fun d => rfl)
theorem TD.r5_Len_ok : ToldSound Go.Proofs.Try.prog 76 TD.r5_Len := told_soundD fit ToldsOK.nil Go.Proofs.Try.func76 rfl TD.r5_Len_eq (fun d => rfl)
theorem TD.pcm_kind_ok : ToldSound Go.Proofs.Try.prog 106 TD.pcm_kind := told_soundD fit ToldsOK.nil Go.Proofs.Try.func106 rfl TD.pcm_kind_eq (fun d => rfl)
theorem TD.pcm_sample_ok : ToldSound Go.Proofs.Try.prog 107 TD.pcm_sample := told_soundD fit ToldsOK.nil Go.Proofs.Try.func107 rfl TD.pcm_sample_eq (fun d => rfl)
theorem TD.chk1_ok : ToldSound Go.Proofs.Try.prog 147 TD.chk1 := told_soundD fit (ToldsOK.cons (toldAll_cons TD.pcm_in_ok toldAll_nil) ToldsOK.nil) Go.Proofs.Try.func147 rfl TD.chk1_eq (fun d => rfl)
theorem TD.each_ok : ToldSound Go.Proofs.Try.prog 146 TD.each := told_soundD fit (ToldsOK.cons (toldAll_cons TD.chk1_ok toldAll_nil) ToldsOK.nil) Go.Proofs.Try.func146 rfl TD.each_eq (fun d => rfl)
theorem TD.pcm_Check_ok : ToldSound Go.Proofs.Try.prog 113 TD.pcm_Check := told_soundD fit (ToldsOK.cons (toldAll_cons TD.pcm_kind_ok toldAll_nil) (ToldsOK.cons (toldAll_cons TD.chk1_ok toldAll_nil) (ToldsOK.cons (toldAll_cons TD.each_ok toldAll_nil) (ToldsOK.cons (toldAll_cons TD.pcm_Len_ok toldAll_nil) ToldsOK.nil)))) Go.Proofs.Try.func113 rfl TD.pcm_Check_eq (fun d => rfl)
theorem TD.r5_Check_ok : ToldSound Go.Proofs.Try.prog 78 TD.r5_Check := told_soundD fit (ToldsOK.cons (toldAll_cons TD.r5_Len_ok toldAll_nil) (ToldsOK.cons (toldAll_cons TD.r5_Sample_ok toldAll_nil) ToldsOK.nil)) Go.Proofs.Try.func78 rfl TD.r5_Check_eq (fun d => rfl)
theorem TD.pcm_Fits_ok : ToldSound Go.Proofs.Try.prog 62 TD.pcm_Fits := told_soundD fit (ToldsOK.cons (toldAll_cons TD.pcm_Check_ok toldAll_nil) ToldsOK.nil) Go.Proofs.Try.func62 rfl TD.pcm_Fits_eq (fun d => rfl)
theorem TD.r5_Fits_ok : ToldSound Go.Proofs.Try.prog 29 TD.r5_Fits := told_soundD fit (ToldsOK.cons (toldAll_cons TD.r5_Check_ok toldAll_nil) ToldsOK.nil) Go.Proofs.Try.func29 rfl TD.r5_Fits_eq (fun d => rfl)
theorem TD.r5_Ints_ok : ToldSound Go.Proofs.Try.prog 17 TD.r5_Ints := told_soundD fit ToldsOK.nil Go.Proofs.Try.func17 rfl TD.r5_Ints_eq (fun d => rfl)
theorem TD.r5_SamePlanes_ok : ToldSound Go.Proofs.Try.prog 59 TD.r5_SamePlanes := told_soundD fit (ToldsOK.cons (toldAll_cons TD.r5_Ints_ok toldAll_nil) ToldsOK.nil) Go.Proofs.Try.func59 rfl TD.r5_SamePlanes_eq (fun d => rfl)
theorem TD.r5_Same_ok : ToldSound Go.Proofs.Try.prog 22 TD.r5_Same := told_soundD fit (ToldsOK.cons (toldAll_cons TD.r5_SamePlanes_ok toldAll_nil) ToldsOK.nil) Go.Proofs.Try.func22 rfl TD.r5_Same_eq (fun d => rfl)
theorem TD.slices_Equal_ok : ToldSound Go.Proofs.Try.prog 115 TD.slices_Equal := told_soundD fit ToldsOK.nil Go.Proofs.Try.func115 rfl TD.slices_Equal_eq (fun d => rfl)
theorem TD.EqualFunc_ok : ToldSound Go.Proofs.Try.prog 114 TD.EqualFunc := told_soundD fit (ToldsOK.cons (toldAll_cons TD.slices_Equal_ok toldAll_nil) ToldsOK.nil) Go.Proofs.Try.func114 rfl TD.EqualFunc_eq (fun d => rfl)
theorem TD.pcm_Same_ok : ToldSound Go.Proofs.Try.prog 64 TD.pcm_Same := told_soundD fit (ToldsOK.cons (toldAll_cons TD.EqualFunc_ok toldAll_nil) (ToldsOK.cons (toldAll_cons TD.slices_Equal_ok toldAll_nil) ToldsOK.nil)) Go.Proofs.Try.func64 rfl TD.pcm_Same_eq (fun d => rfl)
theorem TD.pcm_Pack_ok : ToldSound Go.Proofs.Try.prog 67 TD.pcm_Pack := told_soundD fit (ToldsOK.cons (toldAll_cons TD.pcm_Check_ok toldAll_nil) (ToldsOK.cons (toldAll_cons TD.pcm_Len_ok toldAll_nil) ToldsOK.nil)) Go.Proofs.Try.func67 rfl TD.pcm_Pack_eq (fun d => rfl)
theorem TD.r5_Pack_ok : ToldSound Go.Proofs.Try.prog 70 TD.r5_Pack := told_soundD fit (ToldsOK.cons (toldAll_cons TD.r5_Check_ok toldAll_nil) (ToldsOK.cons (toldAll_cons TD.r5_Len_ok toldAll_nil) (ToldsOK.cons (toldAll_cons TD.r2_Le_ok toldAll_nil) (ToldsOK.cons (toldAll_cons TD.r2_Be_ok toldAll_nil) ToldsOK.nil)))) Go.Proofs.Try.func70 rfl TD.r5_Pack_eq (fun d => rfl)
theorem TD.Two_ok : ToldSound Go.Proofs.Try.prog 61 TD.Two := told_soundD fit ToldsOK.nil Go.Proofs.Try.func61 rfl TD.Two_eq (fun d => rfl)
theorem TD.eqChunks_ok : ToldSound Go.Proofs.Try.prog 65 TD.eqChunks := told_soundD fit ToldsOK.nil Go.Proofs.Try.func65 rfl TD.eqChunks_eq (fun d => rfl)
theorem TD.CloneN_ok : ToldSound Go.Proofs.Try.prog 66 TD.CloneN := told_soundD fit ToldsOK.nil Go.Proofs.Try.func66 rfl TD.CloneN_eq (fun d => rfl)
theorem TD.Len64_ok : ToldSound Go.Proofs.Try.prog 149 TD.Len64 := told_soundD fit ToldsOK.nil Go.Proofs.Try.func149 rfl TD.Len64_eq (fun d => rfl)
theorem TD.Len32_ok : ToldSound Go.Proofs.Try.prog 148 TD.Len32 := told_soundD fit ToldsOK.nil Go.Proofs.Try.func148 rfl TD.Len32_eq (fun d => rfl)
theorem TD.bLen_ok : ToldSound Go.Proofs.Try.prog 123 TD.bLen := told_soundD fit (ToldsOK.cons (toldAll_cons TD.Len32_ok toldAll_nil) (ToldsOK.cons (toldAll_cons TD.Len64_ok toldAll_nil) ToldsOK.nil)) Go.Proofs.Try.func123 rfl TD.bLen_eq (fun d => rfl)
theorem TD.Rate_ok : ToldSound Go.Proofs.Try.prog 74 TD.Rate := told_soundD fit (ToldsOK.cons (toldAll_cons TD.bLen_ok toldAll_nil) (ToldsOK.cons (toldAll_cons TD.bytes_Be_ok toldAll_nil) ToldsOK.nil)) Go.Proofs.Try.func74 rfl TD.Rate_eq (fun d => rfl)
theorem TD.FromRate_ok : ToldSound Go.Proofs.Try.prog 105 TD.FromRate := told_soundD fit (ToldsOK.cons (toldAll_cons TD.bytes_FromBe_ok toldAll_nil) (ToldsOK.cons (toldAll_cons TD.Rate_ok toldAll_nil) ToldsOK.nil)) Go.Proofs.Try.func105 rfl TD.FromRate_eq (fun d => rfl)
theorem TD.r2_Rate_ok : ToldSound Go.Proofs.Try.prog 77 TD.r2_Rate := told_soundD fit (ToldsOK.cons (toldAll_cons TD.r2_Be_ok toldAll_nil) ToldsOK.nil) Go.Proofs.Try.func77 rfl TD.r2_Rate_eq (fun d => rfl)
theorem TD.r2_FromRate_ok : ToldSound Go.Proofs.Try.prog 110 TD.r2_FromRate := told_soundD fit (ToldsOK.cons (toldAll_cons TD.r2_FromBe_ok toldAll_nil) (ToldsOK.cons (toldAll_cons TD.r2_Rate_ok toldAll_nil) ToldsOK.nil)) Go.Proofs.Try.func110 rfl TD.r2_FromRate_eq (fun d => rfl)
theorem TD.HasPrefix0_ok : ToldSound Go.Proofs.Try.prog 100 TD.HasPrefix0 := told_soundD fit ToldsOK.nil Go.Proofs.Try.func100 rfl TD.HasPrefix0_eq (fun d => rfl)
theorem TD.HasPrefix_ok : ToldSound Go.Proofs.Try.prog 48 TD.HasPrefix := told_soundD fit (ToldsOK.cons (toldAll_cons TD.HasPrefix0_ok toldAll_nil) ToldsOK.nil) Go.Proofs.Try.func48 rfl TD.HasPrefix_eq (fun d => rfl)
theorem TD.only1_ok : ToldSound Go.Proofs.Try.prog 102 TD.only1 := told_soundD fit ToldsOK.nil Go.Proofs.Try.func102 rfl TD.only1_eq (fun d => rfl)
theorem TD.IndexFunc_ok : ToldSound Go.Proofs.Try.prog 103 TD.IndexFunc := told_soundD fit (ToldsOK.cons (toldAll_cons TD.only1_ok toldAll_nil) ToldsOK.nil) Go.Proofs.Try.func103 rfl TD.IndexFunc_eq (fun d => rfl)
theorem TD.ContainsFunc_ok : ToldSound Go.Proofs.Try.prog 104 TD.ContainsFunc := told_soundD fit (ToldsOK.cons (toldAll_cons TD.IndexFunc_ok toldAll_nil) (ToldsOK.cons (toldAll_cons TD.only1_ok toldAll_nil) ToldsOK.nil)) Go.Proofs.Try.func104 rfl TD.ContainsFunc_eq (fun d => rfl)
theorem TD.only_ok : ToldSound Go.Proofs.Try.prog 51 TD.only := told_soundD fit (ToldsOK.cons (toldAll_cons TD.only1_ok toldAll_nil) (ToldsOK.cons (toldAll_cons TD.IndexFunc_ok toldAll_nil) (ToldsOK.cons (toldAll_cons TD.ContainsFunc_ok toldAll_nil) ToldsOK.nil))) Go.Proofs.Try.func51 rfl TD.only_eq (fun d => rfl)
theorem TD.find_ok : ToldSound Go.Proofs.Try.prog 56 TD.find := told_soundD fit ToldsOK.nil Go.Proofs.Try.func56 rfl TD.find_eq (fun d => rfl)
theorem TD.read_ok : ToldSound Go.Proofs.Try.prog 52 TD.read := told_soundD fit (ToldsOK.cons (toldAll_cons TD.FromRate_ok toldAll_nil) (ToldsOK.cons (toldAll_cons TD.bytes_FromBe_ok toldAll_nil) ToldsOK.nil)) Go.Proofs.Try.func52 rfl TD.read_eq (fun d => rfl)
theorem TD.comm_ok : ToldSound Go.Proofs.Try.prog 57 TD.comm := told_soundD fit (ToldsOK.cons (toldAll_cons TD.r2_FromBe_ok toldAll_nil) (ToldsOK.cons (toldAll_cons TD.r2_FromRate_ok toldAll_nil) ToldsOK.nil)) Go.Proofs.Try.func57 rfl TD.comm_eq (fun d => rfl)
theorem TD.none__ok : ToldSound Go.Proofs.Try.prog 47 TD.none_ := told_soundD fit ToldsOK.nil Go.Proofs.Try.func47 rfl TD.none__eq (fun d => rfl)
end Go.Proofs.Ytfblaicifdgfiaa.Dg
end

section
set_option linter.unusedVariables false
set_option maxRecDepth 100000
namespace Go.Proofs.Ytfblaicifdgfiaa.Dg
open Go.LM
theorem TD.pcm_Unpack_ok : ToldSound Go.Proofs.Try.prog 53 TD.pcm_Unpack := told_soundD fit (ToldsOK.cons (toldAll_cons TD.pcm_kind_ok toldAll_nil) (ToldsOK.cons (toldAll_cons TD.pcm_sample_ok toldAll_nil) (ToldsOK.cons (toldAll_cons TD.pcm_in_ok toldAll_nil) ToldsOK.nil))) Go.Proofs.Try.func53 rfl TD.pcm_Unpack_eq (fun d => rfl)
theorem TD.r5_Unpack_ok : ToldSound Go.Proofs.Try.prog 58 TD.r5_Unpack := told_soundD fit (ToldsOK.cons (toldAll_cons TD.r2_FromLe_ok toldAll_nil) (ToldsOK.cons (toldAll_cons TD.r2_FromBe_ok toldAll_nil) (ToldsOK.cons (toldAll_cons TD.r5_Sample_ok toldAll_nil) ToldsOK.nil))) Go.Proofs.Try.func58 rfl TD.r5_Unpack_eq (fun d => rfl)
theorem TD.CloneW_ok : ToldSound Go.Proofs.Try.prog 66 TD.CloneW := told_soundD fit ToldsOK.nil Go.Proofs.Try.func66 rfl TD.CloneW_eq (fun d => rfl)
theorem clone_w (b : Bool) (xs : List (List UInt8 × List UInt8 × Int × PUnit)) (h : b = true → xs = []) : LQ.CloneW b xs = LQ.CloneD xs := by
  unfold LQ.CloneW LQ.CloneW.t LQ.CloneD
  cases b with
  | true => rw [h rfl]; rfl
  | false => simp only [Tr.run, cond_false, Nat.zero_add, List.nil_append]
theorem TD.CloneDW_ok : ToldSound Go.Proofs.Try.prog 66 TD.CloneDW := told_nz TD.CloneW_ok clone_w
end Go.Proofs.Ytfblaicifdgfiaa.Dg
end

section
set_option linter.unusedVariables false
set_option maxRecDepth 100000
namespace Go.Proofs.Ytfblaicifdgfiaa.Dg
open Go.LM
theorem TD.Parse_ok : ToldSound Go.Proofs.Try.prog 20 TD.Parse := told_soundD fit (ToldsOK.cons (toldAll_cons TD.none__ok toldAll_nil) (ToldsOK.cons (toldAll_cons TD.HasPrefix_ok toldAll_nil) (ToldsOK.cons (toldAll_cons TD.bytes_FromBe_ok toldAll_nil) (ToldsOK.cons (toldAll_cons TD.Chunks_ok toldAll_nil) (ToldsOK.cons (toldAll_cons TD.only_ok toldAll_nil) (ToldsOK.cons (toldAll_cons TD.read_ok toldAll_nil) (ToldsOK.cons (toldAll_cons TD.pcm_Unpack_ok toldAll_nil) ToldsOK.nil))))))) Go.Proofs.Try.func20 rfl TD.Parse_eq (fun d => rfl)
theorem TD.r7_Parse_ok : ToldSound Go.Proofs.Try.prog 21 TD.r7_Parse := told_soundD fit (ToldsOK.cons (toldAll_cons TD.r2_FromBe_ok toldAll_nil) (ToldsOK.cons (toldAll_cons TD.r6_Chunks_ok toldAll_nil) (ToldsOK.cons (toldAll_cons TD.find_ok toldAll_nil) (ToldsOK.cons (toldAll_cons TD.comm_ok toldAll_nil) (ToldsOK.cons (toldAll_cons TD.r5_Unpack_ok toldAll_nil) ToldsOK.nil))))) Go.Proofs.Try.func21 rfl TD.r7_Parse_eq (fun d => rfl)
theorem TD.r7_Same_ok : ToldSound Go.Proofs.Try.prog 23 TD.r7_Same := told_soundD fit (ToldsOK.cons (toldAll_cons TD.r6_SameChunks_ok toldAll_nil) ToldsOK.nil) Go.Proofs.Try.func23 rfl TD.r7_Same_eq (fun d => rfl)
theorem TD.bclo_ok : ToldSound Go.Proofs.Try.prog 63 TD.bclo := told_soundD fit (ToldsOK.cons (toldAll_cons TD.Parse_ok toldAll_nil) (ToldsOK.cons (toldAll_cons TD.pcm_Same_ok toldAll_nil) (ToldsOK.cons (toldAll_cons TD.eqChunks_ok toldAll_nil) ToldsOK.nil))) Go.Proofs.Try.func63 rfl TD.bclo_eq (fun d => rfl)
theorem TD.bclo_okD : ToldSoundD Go.Proofs.Try.prog 63 TD.bclo := told_soundDD fit (ToldsOK.cons (toldAll_cons TD.Parse_ok toldAll_nil) (ToldsOK.cons (toldAll_cons TD.pcm_Same_ok toldAll_nil) (ToldsOK.cons (toldAll_cons TD.eqChunks_ok toldAll_nil) ToldsOK.nil))) Go.Proofs.Try.func63 rfl TD.bclo_eq (fun d => rfl)
theorem TD.Plain_ok : ToldSound Go.Proofs.Try.prog 27 TD.Plain := told_soundD fit (ToldsOK.cons (toldAll_cons TD.pcm_Fits_ok toldAll_nil) (ToldsOK.cons (toldAll_cons TD.pcm_Len_ok toldAll_nil) (ToldsOK.cons (toldAll_cons TD.bytes_Be_ok toldAll_nil) (ToldsOK.cons (toldAll_cons TD.Rate_ok toldAll_nil) (ToldsOK.cons (toldAll_cons TD.RepeatT_ok toldAll_nil) ToldsOK.nil))))) Go.Proofs.Try.func27 rfl TD.Plain_eq (fun d => rfl)
theorem TD.Build_ok : ToldSound Go.Proofs.Try.prog 25 TD.Build := told_sound2 fit (ToldsOK.cons (toldAll_cons TD.pcm_Fits_ok toldAll_nil) (ToldsOK.cons (toldAll_cons TD.bclo_ok toldAll_nil) (ToldsOK.cons (toldAll_cons TD.only_ok toldAll_nil) (ToldsOK.cons (toldAll_cons TD.read_ok toldAll_nil) (ToldsOK.cons (toldAll_cons TD.CloneDW_ok (toldAll_cons TD.CloneN_ok (toldAll_cons TD.CloneW_ok toldAll_nil))) (ToldsOK.cons (toldAll_cons TD.pcm_Pack_ok toldAll_nil) (ToldsOK.cons (toldAll_cons TD.Lay_ok toldAll_nil) (ToldsOK.cons (toldAll_cons TD.bytes_Be_ok toldAll_nil) ToldsOK.nil)))))))) (toldsD_one TD.bclo_okD) Go.Proofs.Try.func25 rfl TD.Build_eq (fun d => rfl)
theorem TD.r7_Plain_ok : ToldSound Go.Proofs.Try.prog 28 TD.r7_Plain := told_soundD fit (ToldsOK.cons (toldAll_cons TD.r5_Fits_ok toldAll_nil) (ToldsOK.cons (toldAll_cons TD.r2_Be_ok toldAll_nil) (ToldsOK.cons (toldAll_cons TD.r5_Len_ok toldAll_nil) (ToldsOK.cons (toldAll_cons TD.r2_Rate_ok toldAll_nil) ToldsOK.nil)))) Go.Proofs.Try.func28 rfl TD.r7_Plain_eq (fun d => rfl)
theorem TD.r7_Build_ok : ToldSound Go.Proofs.Try.prog 26 TD.r7_Build := told_soundD fit (ToldsOK.cons (toldAll_cons TD.r5_Fits_ok toldAll_nil) (ToldsOK.cons (toldAll_cons TD.find_ok toldAll_nil) (ToldsOK.cons (toldAll_cons TD.comm_ok toldAll_nil) (ToldsOK.cons (toldAll_cons TD.r5_Pack_ok toldAll_nil) (ToldsOK.cons (toldAll_cons TD.r6_Lay_ok toldAll_nil) (ToldsOK.cons (toldAll_cons TD.r2_Be_ok toldAll_nil) (ToldsOK.cons (toldAll_cons TD.r7_Parse_ok toldAll_nil) (ToldsOK.cons (toldAll_cons TD.r5_Same_ok toldAll_nil) (ToldsOK.cons (toldAll_cons TD.r7_Same_ok toldAll_nil) ToldsOK.nil))))))))) Go.Proofs.Try.func26 rfl TD.r7_Build_eq (fun d => rfl)
theorem TD.awake07_ok : ToldSound Go.Proofs.Try.prog 24 TD.awake07 := told_soundD fit (ToldsOK.cons (toldAll_cons TD.Two_ok toldAll_nil) (ToldsOK.cons (toldAll_cons TD.Plain_ok toldAll_nil) (ToldsOK.cons (toldAll_cons TD.Build_ok toldAll_nil) (ToldsOK.cons (toldAll_cons TD.Parse_ok toldAll_nil) (ToldsOK.cons (toldAll_cons TD.r5_Same_ok toldAll_nil) (ToldsOK.cons (toldAll_cons TD.r7_Same_ok toldAll_nil) ToldsOK.nil)))))) Go.Proofs.Try.func24 rfl TD.awake07_eq (fun d => rfl)
theorem TD.AiffBuilds_ok : ToldSound Go.Proofs.Try.prog 6 TD.AiffBuilds := told_soundD fit (ToldsOK.cons (toldAll_cons TD.Build_ok toldAll_nil) (ToldsOK.cons (toldAll_cons TD.r7_Build_ok toldAll_nil) (ToldsOK.cons (toldAll_cons TD.Plain_ok toldAll_nil) (ToldsOK.cons (toldAll_cons TD.r7_Plain_ok toldAll_nil) (ToldsOK.cons (toldAll_cons TD.r7_Same_ok toldAll_nil) (ToldsOK.cons (toldAll_cons TD.awake07_ok toldAll_nil) ToldsOK.nil)))))) Go.Proofs.Try.func6 rfl TD.AiffBuilds_eq (fun d => rfl)
end Go.Proofs.Ytfblaicifdgfiaa.Dg
end

