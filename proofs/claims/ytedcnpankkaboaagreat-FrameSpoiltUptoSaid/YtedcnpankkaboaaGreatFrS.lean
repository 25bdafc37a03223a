/- FrS: FrPS FrCS FrBS FrHS FrIS FrUS FrVS FrKS FrTS FrWS FrXS FrYS FrZS. -/
import Derived.Test.YtedcnpankkaboaaGreatFrX
import Derived.Test.YtedcnpankkaboaaGreatFrY
import Derived.Test.YtedcnpankkaboaaGreatFrZ
import Derived.Test.YtedcnpankkaboaaGreatFrW
set_option linter.unusedVariables false
namespace Go.Proofs.YtedcnpankkaboaaGreat.Dg
section
set_option maxRecDepth 100000
open Go.LM
theorem TD.bNew_ok:ToldSound Tryz.prog 14 TD.bNew:=zY fit zX Tryz.func14 rfl TD.bNew_eq (fun d=>rfl)
theorem TD.at1_ok:ToldSound Tryz.prog 68 TD.at1:=zY fit zX Tryz.func68 rfl TD.at1_eq (fun d=>rfl)
theorem TD.on1_ok:ToldSound Tryz.prog 98 TD.on1:=zY fit zX Tryz.func98 rfl TD.on1_eq (fun d=>rfl)
theorem TD.bit1_ok:ToldSound Tryz.prog 105 TD.bit1:=zY fit (zW (zU TD.at1_ok zV) (zW (zU TD.on1_ok zV) zX)) Tryz.func105 rfl TD.bit1_eq (fun d=>rfl)
theorem TD.lay1_ok:ToldSound Tryz.prog 81 TD.lay1:=zY fit (zW (zU TD.bit1_ok zV) zX) Tryz.func81 rfl TD.lay1_eq (fun d=>rfl)
theorem TD.put1_ok:ToldSound Tryz.prog 46 TD.put1:=zY fit (zW (zU TD.lay1_ok zV) zX) Tryz.func46 rfl TD.put1_eq (fun d=>rfl)
theorem TD.bfits_ok:ToldSound Tryz.prog 83 TD.bfits:=zY fit zX Tryz.func83 rfl TD.bfits_eq (fun d=>rfl)
theorem TD.sig1_ok:ToldSound Tryz.prog 49 TD.sig1:=zY fit (zW (zU TD.bfits_ok zV) (zW (zU TD.lay1_ok zV) zX)) Tryz.func49 rfl TD.sig1_eq (fun d=>rfl)
theorem TD.una1_ok:ToldSound Tryz.prog 82 TD.una1:=zY fit (zW (zU TD.at1_ok zV) (zW (zU TD.on1_ok zV) (zW (zU TD.bit1_ok zV) zX))) Tryz.func82 rfl TD.una1_eq (fun d=>rfl)
theorem TD.Una1_ok:ToldSound Tryz.prog 47 TD.Una1:=zY fit (zW (zU TD.una1_ok zV) zX) Tryz.func47 rfl TD.Una1_eq (fun d=>rfl)
theorem TD.sfits_ok:ToldSound Tryz.prog 64 TD.sfits:=zY fit zX Tryz.func64 rfl TD.sfits_eq (fun d=>rfl)
theorem TD.bare_ok:ToldSound Tryz.prog 71 TD.bare:=zY fit zX Tryz.func71 rfl TD.bare_eq (fun d=>rfl)
theorem TD.warm_ok:ToldSound Tryz.prog 48 TD.warm:=zY fit zX Tryz.func48 rfl TD.warm_eq (fun d=>rfl)
theorem TD.Shift_ok:ToldSound Tryz.prog 75 TD.Shift:=zY fit zX Tryz.func75 rfl TD.Shift_eq (fun d=>rfl)
theorem TD.rshape_ok:ToldSound Tryz.prog 99 TD.rshape:=zY fit zX Tryz.func99 rfl TD.rshape_eq (fun d=>rfl)
theorem TD.rCheck_ok:ToldSound Tryz.prog 72 TD.rCheck:=zY fit (zW (zU TD.rshape_ok zV) zX) Tryz.func72 rfl TD.rCheck_eq (fun d=>rfl)
theorem TD.chk1_ok:ToldSound Tryz.prog 70 TD.chk1:=zY fit (zW (zU TD.sfits_ok zV) zX) Tryz.func70 rfl TD.chk1_eq (fun d=>rfl)
theorem TD.IdxF_ok:ToldSound Tryz.prog 74 TD.IdxF:=zY fit (zW (zU TD.chk1_ok zV) zX) Tryz.func74 rfl TD.IdxF_eq (fun d=>rfl)
theorem TD.ConF_ok:ToldSound Tryz.prog 39 TD.ConF:=zY fit (zW (zU TD.IdxF_ok zV) (zW (zU TD.chk1_ok zV) zX)) Tryz.func39 rfl TD.ConF_eq (fun d=>rfl)
theorem TD.Check_ok:ToldSound Tryz.prog 36 TD.Check:=zY fit (zW (zU TD.chk1_ok zV) (zW (zU TD.ConF_ok zV) (zW (zU TD.bare_ok zV) (zW (zU TD.rCheck_ok zV) zX)))) Tryz.func36 rfl TD.Check_eq (fun d=>rfl)
theorem TD.goes_ok:ToldSound Tryz.prog 43 TD.goes:=zY fit (zW (zU TD.sfits_ok zV) (zW (zU TD.Shift_ok zV) zX)) Tryz.func43 rfl TD.goes_eq (fun d=>rfl)
end
section
set_option maxRecDepth 100000
open Go.LM
theorem TD.wBytes_ok:ToldSound Tryz.prog 18 TD.wBytes:=zY fit zX Tryz.func18 rfl TD.wBytes_eq (fun d=>rfl)
theorem TD.rOf_ok:ToldSound Tryz.prog 25 TD.rOf:=zY fit zX Tryz.func25 rfl TD.rOf_eq (fun d=>rfl)
theorem TD.atR_ok:ToldSound Tryz.prog 68 TD.atR:=zY fit zX Tryz.func68 rfl TD.atR_eq (fun d=>rfl)
theorem TD.onR_ok:ToldSound Tryz.prog 98 TD.onR:=zY fit zX Tryz.func98 rfl TD.onR_eq (fun d=>rfl)
theorem TD.peek_ok:ToldSound Tryz.prog 97 TD.peek:=zY fit zX Tryz.func97 rfl TD.peek_eq (fun d=>rfl)
theorem TD.Left_ok:ToldSound Tryz.prog 96 TD.Left:=zY fit (zW (zU TD.at1_ok (zU TD.atR_ok zV)) zX) Tryz.func96 rfl TD.Left_eq (fun d=>rfl)
theorem TD.AtR_ok:ToldSound Tryz.prog 29 TD.AtR:=zY fit (zW (zU TD.at1_ok (zU TD.atR_ok zV)) zX) Tryz.func29 rfl TD.AtR_eq (fun d=>rfl)
theorem TD.Get_ok:ToldSound Tryz.prog 67 TD.Get:=zY fit (zW (zU TD.Left_ok zV) (zW (zU TD.at1_ok (zU TD.atR_ok zV)) (zW (zU TD.peek_ok zV) (zW (zU TD.on1_ok (zU TD.onR_ok zV)) zX)))) Tryz.func67 rfl TD.Get_eq (fun d=>rfl)
theorem TD.SignedR_ok:ToldSound Tryz.prog 109 TD.SignedR:=zY fit (zW (zU TD.Get_ok zV) zX) Tryz.func109 rfl TD.SignedR_eq (fun d=>rfl)
theorem TD.UnaryR_ok:ToldSound Tryz.prog 89 TD.UnaryR:=zY fit (zW (zU TD.Left_ok zV) (zW (zU TD.at1_ok (zU TD.atR_ok zV)) (zW (zU TD.peek_ok zV) (zW (zU TD.on1_ok (zU TD.onR_ok zV)) zX)))) Tryz.func89 rfl TD.UnaryR_eq (fun d=>rfl)
theorem TD.numbers_ok:ToldSound Tryz.prog 90 TD.numbers:=zY fit (zW (zU TD.SignedR_ok zV) zX) Tryz.func90 rfl TD.numbers_eq (fun d=>rfl)
theorem TD.head_ok:ToldSound Tryz.prog 61 TD.head:=zY fit (zW (zU TD.Get_ok zV) (zW (zU TD.UnaryR_ok zV) zX)) Tryz.func61 rfl TD.head_eq (fun d=>rfl)
theorem TD.coefs_ok:ToldSound Tryz.prog 92 TD.coefs:=zY fit (zW (zU TD.Get_ok zV) (zW (zU TD.numbers_ok zV) zX)) Tryz.func92 rfl TD.coefs_eq (fun d=>rfl)
theorem TD.Mul32_ok:ToldSound Tryz.prog 115 TD.Mul32:=zY fit zX Tryz.func115 rfl TD.Mul32_eq (fun d=>rfl)
theorem TD.Mul64_ok:ToldSound Tryz.prog 116 TD.Mul64:=zY fit zX Tryz.func116 rfl TD.Mul64_eq (fun d=>rfl)
theorem TD.bMul_ok:ToldSound Tryz.prog 110 TD.bMul:=zY fit (zW (zU TD.Mul32_ok zV) (zW (zU TD.Mul64_ok zV) zX)) Tryz.func110 rfl TD.bMul_eq (fun d=>rfl)
theorem TD.RepI_ok:ToldSound Tryz.prog 91 TD.RepI:=zY fit (zW (zU TD.bMul_ok zV) zX) Tryz.func91 rfl TD.RepI_eq (fun d=>rfl)
theorem TD.dec1_ok:ToldSound Tryz.prog 63 TD.dec1:=zY fit (zW (zU TD.sfits_ok zV) zX) Tryz.func63 rfl TD.dec1_eq (fun d=>rfl)
theorem TD.IdxG_ok:ToldSound Tryz.prog 74 TD.IdxG:=zY fit (zW (zU TD.dec1_ok zV) zX) Tryz.func74 rfl TD.IdxG_eq (fun d=>rfl)
theorem TD.ConG_ok:ToldSound Tryz.prog 39 TD.ConG:=zY fit (zW (zU TD.IdxF_ok (zU TD.IdxG_ok zV)) (zW (zU TD.dec1_ok zV) zX)) Tryz.func39 rfl TD.ConG_eq (fun d=>rfl)
theorem TD.Unshift_ok:ToldSound Tryz.prog 65 TD.Unshift:=zY fit zX Tryz.func65 rfl TD.Unshift_eq (fun d=>rfl)
theorem TD.rInts_ok:ToldSound Tryz.prog 31 TD.rInts:=zY fit zX Tryz.func31 rfl TD.rInts_eq (fun d=>rfl)
end
section
set_option maxRecDepth 100000
open Go.LM
theorem TD.pred1_ok:ToldSound Tryz.prog 114 TD.pred1:=zY fit zX Tryz.func114 rfl TD.pred1_eq (fun d=>rfl)
theorem TD.pOf_ok:ToldSound Tryz.prog 103 TD.pOf:=zY fit (zW (zU TD.CloneI_ok zV) (zW (zU TD.pred1_ok zV) zX)) Tryz.func103 rfl TD.pOf_eq (fun d=>rfl)
theorem TD.pFixed_ok:ToldSound Tryz.prog 101 TD.pFixed:=zY fit (zW (zU TD.pOf_ok zV) zX) Tryz.func101 rfl TD.pFixed_eq (fun d=>rfl)
theorem TD.pLeft_ok:ToldSound Tryz.prog 100 TD.pLeft:=zY fit (zW (zU TD.pred1_ok zV) zX) Tryz.func100 rfl TD.pLeft_eq (fun d=>rfl)
theorem TD.pMay_ok:ToldSound Tryz.prog 102 TD.pMay:=zY fit zX Tryz.func102 rfl TD.pMay_eq (fun d=>rfl)
theorem TD.Fixed_ok:ToldSound Tryz.prog 76 TD.Fixed:=zY fit (zW (zU TD.pFixed_ok zV) (zW (zU TD.pLeft_ok zV) zX)) Tryz.func76 rfl TD.Fixed_eq (fun d=>rfl)
theorem TD.Lpc_ok:ToldSound Tryz.prog 77 TD.Lpc:=zY fit (zW (zU TD.pMay_ok zV) (zW (zU TD.pOf_ok zV) (zW (zU TD.pLeft_ok zV) zX))) Tryz.func77 rfl TD.Lpc_eq (fun d=>rfl)
theorem TD.residuals_ok:ToldSound Tryz.prog 44 TD.residuals:=zY fit (zW (zU TD.Fixed_ok zV) (zW (zU TD.Lpc_ok zV) zX)) Tryz.func44 rfl TD.residuals_eq (fun d=>rfl)
theorem TD.fold_ok:ToldSound Tryz.prog 104 TD.fold:=zY fit zX Tryz.func104 rfl TD.fold_eq (fun d=>rfl)
theorem TD.rcut_ok:ToldSound Tryz.prog 79 TD.rcut:=zY fit zX Tryz.func79 rfl TD.rcut_eq (fun d=>rfl)
theorem TD.Ric1_ok:ToldSound Tryz.prog 80 TD.Ric1:=zY fit (zW (zU TD.fold_ok zV) (zW (zU TD.una1_ok zV) (zW (zU TD.lay1_ok zV) zX))) Tryz.func80 rfl TD.Ric1_eq (fun d=>rfl)
theorem TD.rmay_ok:ToldSound Tryz.prog 78 TD.rmay:=zY fit (zW (zU TD.bNew_ok zV) (zW (zU TD.sig1_ok zV) zX)) Tryz.func78 rfl TD.rmay_eq (fun d=>rfl)
theorem TD.rEnc1_ok:ToldSound Tryz.prog 45 TD.rEnc1:=zY fit (zW (zU TD.rCheck_ok zV) (zW (zU TD.rcut_ok zV) (zW (zU TD.rmay_ok zV) (zW (zU TD.put1_ok zV) (zW (zU TD.Ric1_ok zV) (zW (zU TD.sig1_ok zV) zX)))))) Tryz.func45 rfl TD.rEnc1_eq (fun d=>rfl)
theorem TD.encF_ok:ToldSound Tryz.prog 15 TD.encF:=zY fit (zW (zU TD.Check_ok zV) (zW (zU TD.goes_ok zV) (zW (zU TD.residuals_ok zV) (zW (zU TD.bNew_ok zV) (zW (zU TD.rEnc1_ok zV) (zW (zU TD.put1_ok zV) (zW (zU TD.Una1_ok zV) (zW (zU TD.warm_ok zV) (zW (zU TD.sig1_ok zV) zX))))))))) Tryz.func15 rfl TD.encF_eq (fun d=>rfl)
end
section
set_option maxRecDepth 100000
open Go.LM
theorem TD.RiceR_ok:ToldSound Tryz.prog 117 TD.RiceR:=zY fit (zW (zU TD.UnaryR_ok zV) (zW (zU TD.Get_ok zV) zX)) Tryz.func117 rfl TD.RiceR_eq (fun d=>rfl)
theorem TD.part_ok:ToldSound Tryz.prog 111 TD.part:=zY fit (zW (zU TD.Get_ok zV) (zW (zU TD.RiceR_ok zV) (zW (zU TD.SignedR_ok zV) zX))) Tryz.func111 rfl TD.part_eq (fun d=>rfl)
theorem TD.rDec_ok:ToldSound Tryz.prog 93 TD.rDec:=zY fit (zW (zU TD.Get_ok zV) (zW (zU TD.rshape_ok zV) (zW (zU TD.part_ok zV) zX))) Tryz.func93 rfl TD.rDec_eq (fun d=>rfl)
theorem TD.pred1R_ok:ToldSound Tryz.prog 114 TD.pred1R:=zY fit zX Tryz.func114 rfl TD.pred1R_eq (fun d=>rfl)
theorem TD.r8Same_ok:ToldSound Tryz.prog 69 TD.r8Same:=zY fit zX Tryz.func69 rfl TD.r8Same_eq (fun d=>rfl)
theorem TD.r10Same_ok:ToldSound Tryz.prog 32 TD.r10Same:=zY fit (zW (zU TD.rInts_ok zV) (zW (zU TD.r8Same_ok zV) zX)) Tryz.func32 rfl TD.r10Same_eq (fun d=>rfl)
end
section
set_option maxRecDepth 100000
open Go.LM
theorem TD.whole_ok:ToldSound Tryz.prog 112 TD.whole:=zY fit (zW (zU TD.CloneR_ok zV) (zW (zU TD.pred1R_ok (zU TD.pred1_ok (zU TD.pred1R_ok zV))) zX)) Tryz.func112 rfl TD.whole_eq (fun d=>rfl)
theorem TD.Unfixed_ok:ToldSound Tryz.prog 94 TD.Unfixed:=zY fit (zW (zU TD.pFixed_ok zV) (zW (zU TD.whole_ok zV) zX)) Tryz.func94 rfl TD.Unfixed_eq (fun d=>rfl)
theorem TD.Unlpc_ok:ToldSound Tryz.prog 95 TD.Unlpc:=zY fit (zW (zU TD.pMay_ok zV) (zW (zU TD.pOf_ok zV) (zW (zU TD.whole_ok zV) zX))) Tryz.func95 rfl TD.Unlpc_eq (fun d=>rfl)
theorem TD.bodyF_ok:ToldSound Tryz.prog 62 TD.bodyF:=zY fit (zW (zU TD.warm_ok zV) (zW (zU TD.numbers_ok zV) (zW (zU TD.RepI_ok zV) (zW (zU TD.coefs_ok zV) (zW (zU TD.rDec_ok zV) (zW (zU TD.Unfixed_ok zV) (zW (zU TD.Unlpc_ok zV) zX))))))) Tryz.func62 rfl TD.bodyF_eq (fun d=>rfl)
theorem TD.DecodeF_ok:ToldSound Tryz.prog 26 TD.DecodeF:=zY fit (zW (zU TD.head_ok zV) (zW (zU TD.bodyF_ok zV) (zW (zU TD.dec1_ok zV) (zW (zU TD.ConF_ok (zU TD.ConG_ok zV)) (zW (zU TD.Unshift_ok zV) zX))))) Tryz.func26 rfl TD.DecodeF_eq (fun d=>rfl)
end
section
set_option maxRecDepth 100000
open Go.LM
theorem TD.bLe_ok:ToldSound Tryz.prog 54 TD.bLe:=zY fit zX Tryz.func54 rfl TD.bLe_eq (fun d=>rfl)
theorem TD.bTurn_ok:ToldSound Tryz.prog 55 TD.bTurn:=zY fit zX Tryz.func55 rfl TD.bTurn_eq (fun d=>rfl)
theorem TD.bBe_ok:ToldSound Tryz.prog 19 TD.bBe:=zY fit (zW (zU TD.bLe_ok zV) (zW (zU TD.bTurn_ok zV) zX)) Tryz.func19 rfl TD.bBe_eq (fun d=>rfl)
theorem TD.bFromBe_ok:ToldSound Tryz.prog 30 TD.bFromBe:=zY fit zX Tryz.func30 rfl TD.bFromBe_eq (fun d=>rfl)
theorem TD.bWide_ok:ToldSound Tryz.prog 84 TD.bWide:=zY fit zX Tryz.func84 rfl TD.bWide_eq (fun d=>rfl)
theorem TD.Coded_ok:ToldSound Tryz.prog 51 TD.Coded:=zY fit (zW (zU TD.bWide_ok zV) zX) Tryz.func51 rfl TD.Coded_eq (fun d=>rfl)
theorem TD.Len8_ok:ToldSound Tryz.prog 108 TD.Len8:=zY fit zX Tryz.func108 rfl TD.Len8_eq (fun d=>rfl)
theorem TD.LZ8_ok:ToldSound Tryz.prog 88 TD.LZ8:=zY fit (zW (zU TD.Len8_ok zV) zX) Tryz.func88 rfl TD.LZ8_eq (fun d=>rfl)
theorem TD.Uncoded_ok:ToldSound Tryz.prog 57 TD.Uncoded:=zY fit (zW (zU TD.LZ8_ok zV) (zW (zU TD.bWide_ok zV) zX)) Tryz.func57 rfl TD.Uncoded_eq (fun d=>rfl)
theorem TD.sizeOf_ok:ToldSound Tryz.prog 58 TD.sizeOf:=zY fit zX Tryz.func58 rfl TD.sizeOf_eq (fun d=>rfl)
theorem TD.widthOf_ok:ToldSound Tryz.prog 35 TD.widthOf:=zY fit zX Tryz.func35 rfl TD.widthOf_eq (fun d=>rfl)
theorem TD.extra_ok:ToldSound Tryz.prog 52 TD.extra:=zY fit zX Tryz.func52 rfl TD.extra_eq (fun d=>rfl)
theorem TD.rates_ok:ToldSound Tryz.prog 60 TD.rates:=zY fit zX Tryz.func60 rfl TD.rates_eq (fun d=>rfl)
theorem TD.rate_ok:ToldSound Tryz.prog 34 TD.rate:=zY fit (zW (zU TD.extra_ok zV) (zW (zU TD.rates_ok zV) zX)) Tryz.func34 rfl TD.rate_eq (fun d=>rfl)
theorem TD.fsize_ok:ToldSound Tryz.prog 33 TD.fsize:=zY fit (zW (zU TD.sizeOf_ok zV) zX) Tryz.func33 rfl TD.fsize_eq (fun d=>rfl)
theorem TD.side_ok:ToldSound Tryz.prog 50 TD.side:=zY fit zX Tryz.func50 rfl TD.side_eq (fun d=>rfl)
theorem TD.fwide_ok:ToldSound Tryz.prog 16 TD.fwide:=zY fit (zW (zU TD.side_ok zV) zX) Tryz.func16 rfl TD.fwide_eq (fun d=>rfl)
theorem TD.stream_ok:ToldSound Tryz.prog 23 TD.stream:=zY fit zX Tryz.func23 rfl TD.stream_eq (fun d=>rfl)
theorem TD.fCheck_ok:ToldSound Tryz.prog 11 TD.fCheck:=zY fit (zW (zU TD.stream_ok zV) (zW (zU TD.fsize_ok zV) (zW (zU TD.rate_ok zV) (zW (zU TD.widthOf_ok zV) (zW (zU TD.fwide_ok zV) (zW (zU TD.Check_ok zV) zX)))))) Tryz.func11 rfl TD.fCheck_eq (fun d=>rfl)
theorem TD.fInfo_ok:ToldSound Tryz.prog 21 TD.fInfo:=zY fit zX Tryz.func21 rfl TD.fInfo_eq (fun d=>rfl)
end
section
set_option maxRecDepth 100000
open Go.LM
theorem TD.blk2_ok:ToldSound Tryz.prog 40 TD.blk2:=zY fit zX Tryz.func40 rfl TD.blk2_eq (fun d=>rfl)
theorem TD.IdxB_ok:ToldSound Tryz.prog 74 TD.IdxB:=zY fit (zW (zU TD.blk2_ok zV) zX) Tryz.func74 rfl TD.IdxB_eq (fun d=>rfl)
theorem TD.ConB_ok:ToldSound Tryz.prog 39 TD.ConB:=zY fit (zW (zU TD.IdxF_ok (zU TD.IdxG_ok (zU TD.IdxB_ok zV))) (zW (zU TD.blk2_ok zV) zX)) Tryz.func39 rfl TD.ConB_eq (fun d=>rfl)
theorem TD.blk1_ok:ToldSound Tryz.prog 38 TD.blk1:=zY fit (zW (zU TD.blk2_ok zV) (zW (zU TD.ConF_ok (zU TD.ConG_ok (zU TD.ConB_ok zV))) zX)) Tryz.func38 rfl TD.blk1_eq (fun d=>rfl)
theorem TD.IdxC_ok:ToldSound Tryz.prog 73 TD.IdxC:=zY fit (zW (zU TD.blk1_ok zV) zX) Tryz.func73 rfl TD.IdxC_eq (fun d=>rfl)
theorem TD.ConC_ok:ToldSound Tryz.prog 37 TD.ConC:=zY fit (zW (zU TD.IdxC_ok zV) (zW (zU TD.blk1_ok zV) zX)) Tryz.func37 rfl TD.ConC_eq (fun d=>rfl)
theorem TD.fBlock_ok:ToldSound Tryz.prog 12 TD.fBlock:=zY fit (zW (zU TD.blk1_ok zV) (zW (zU TD.ConC_ok zV) zX)) Tryz.func12 rfl TD.fBlock_eq (fun d=>rfl)
theorem TD.ste1_ok:ToldSound Tryz.prog 42 TD.ste1:=zY fit zX Tryz.func42 rfl TD.ste1_eq (fun d=>rfl)
theorem TD.two1_ok:ToldSound Tryz.prog 41 TD.two1:=zY fit (zW (zU TD.ste1_ok zV) zX) Tryz.func41 rfl TD.two1_eq (fun d=>rfl)
theorem TD.Stereo_ok:ToldSound Tryz.prog 13 TD.Stereo:=zY fit (zW (zU TD.ste1_ok zV) (zW (zU TD.two1_ok zV) zX)) Tryz.func13 rfl TD.Stereo_eq (fun d=>rfl)
theorem TD.uns1_ok:ToldSound Tryz.prog 66 TD.uns1:=zY fit zX Tryz.func66 rfl TD.uns1_eq (fun d=>rfl)
theorem TD.two2_ok:ToldSound Tryz.prog 41 TD.two2:=zY fit (zW (zU TD.uns1_ok zV) zX) Tryz.func41 rfl TD.two2_eq (fun d=>rfl)
theorem TD.Unstereo_ok:ToldSound Tryz.prog 27 TD.Unstereo:=zY fit (zW (zU TD.uns1_ok zV) (zW (zU TD.two1_ok (zU TD.two2_ok zV)) zX)) Tryz.func27 rfl TD.Unstereo_eq (fun d=>rfl)
theorem TD.AlignR_ok:ToldSound Tryz.prog 28 TD.AlignR:=zY fit (zW (zU TD.at1_ok (zU TD.atR_ok zV)) (zW (zU TD.Get_ok zV) zX)) Tryz.func28 rfl TD.AlignR_eq (fun d=>rfl)
theorem TD.take1_ok:ToldSound Tryz.prog 59 TD.take1:=zY fit (zW (zU TD.bFromBe_ok zV) zX) Tryz.func59 rfl TD.take1_eq (fun d=>rfl)
end
section
set_option maxRecDepth 100000
open Go.LM
theorem TD.specs_ok:ToldSound Tryz.prog 106 TD.specs:=zY fit zX Tryz.func106 rfl TD.specs_eq (fun d=>rfl)
theorem TD.table_ok:ToldSound Tryz.prog 107 TD.table:=zY fit zX Tryz.func107 rfl TD.table_eq (fun d=>rfl)
end
section
set_option maxRecDepth 100000
open Go.LM
theorem TD.sVal_ok:ToldSound Tryz.prog 87 TD.sVal:=zY fit zX Tryz.func87 rfl TD.sVal_eq (fun d=>rfl)
theorem TD.sAdd_ok:ToldSound Tryz.prog 86 TD.sAdd:=zY fit zX Tryz.func86 rfl TD.sAdd_eq (fun d=>rfl)
theorem TD.sNew_ok:ToldSound Tryz.prog 85 TD.sNew:=zY fit (zW (zU TD.specs_ok zV) (zW (zU TD.table_ok zV) zX)) Tryz.func85 rfl TD.sNew_eq (fun d=>rfl)
theorem TD.sof_ok:ToldSound Tryz.prog 56 TD.sof:=zY fit (zW (zU TD.sNew_ok zV) (zW (zU TD.sAdd_ok zV) (zW (zU TD.sVal_ok zV) zX))) Tryz.func56 rfl TD.sof_eq (fun d=>rfl)
theorem TD.Crc8_ok:ToldSound Tryz.prog 53 TD.Crc8:=zY fit (zW (zU TD.sof_ok zV) zX) Tryz.func53 rfl TD.Crc8_eq (fun d=>rfl)
theorem TD.Crc16_ok:ToldSound Tryz.prog 20 TD.Crc16:=zY fit (zW (zU TD.sof_ok zV) zX) Tryz.func20 rfl TD.Crc16_eq (fun d=>rfl)
end
section
set_option maxRecDepth 100000
open Go.LM
theorem TD.fHead_ok:ToldSound Tryz.prog 17 TD.fHead:=zY fit (zW (zU TD.bNew_ok zV) (zW (zU TD.put1_ok zV) (zW (zU TD.Coded_ok zV) (zW (zU TD.wBytes_ok zV) (zW (zU TD.bBe_ok zV) (zW (zU TD.extra_ok zV) (zW (zU TD.Crc8_ok zV) zX))))))) Tryz.func17 rfl TD.fHead_eq (fun d=>rfl)
theorem TD.r11Same_ok:ToldSound Tryz.prog 10 TD.r11Same:=zY fit (zW (zU TD.r10Same_ok zV) zX) Tryz.func10 rfl TD.r11Same_eq (fun d=>rfl)
end
section
set_option maxRecDepth 100000
open Go.LM
theorem TD.readN_ok:ToldSound Tryz.prog 22 TD.readN:=zY fit (zW (zU TD.Uncoded_ok zV) (zW (zU TD.sizeOf_ok zV) (zW (zU TD.take1_ok zV) (zW (zU TD.extra_ok zV) (zW (zU TD.rates_ok zV) (zW (zU TD.Crc8_ok zV) zX)))))) Tryz.func22 rfl TD.readN_eq (fun d=>rfl)
theorem TD.lookN_ok:ToldSound Tryz.prog 24 TD.lookN:=zY fit (zW (zU TD.widthOf_ok zV) zX) Tryz.func24 rfl TD.lookN_eq (fun d=>rfl)
end
section
set_option maxRecDepth 100000
open Go.LM
theorem TD.fBuild_ok:ToldSound Tryz.prog 6 TD.fBuild:=zY fit (zW (zU TD.fCheck_ok zV) (zW (zU TD.fBlock_ok zV) (zW (zU TD.Stereo_ok zV) (zW (zU TD.bNew_ok zV) (zW (zU TD.fwide_ok zV) (zW (zU TD.encF_ok zV) (zW (zU TD.fHead_ok zV) (zW (zU TD.wBytes_ok zV) (zW (zU TD.Crc16_ok zV) (zW (zU TD.bBe_ok zV) zX)))))))))) Tryz.func6 rfl TD.fBuild_eq (fun d=>rfl)
theorem TD.fParse_ok:ToldSound Tryz.prog 8 TD.fParse:=zY fit (zW (zU TD.readN_ok zV) (zW (zU TD.stream_ok zV) (zW (zU TD.lookN_ok zV) (zW (zU TD.rOf_ok zV) (zW (zU TD.fwide_ok zV) (zW (zU TD.DecodeF_ok zV) (zW (zU TD.Unstereo_ok zV) (zW (zU TD.AlignR_ok zV) (zW (zU TD.AtR_ok zV) (zW (zU TD.fBlock_ok zV) (zW (zU TD.bFromBe_ok zV) (zW (zU TD.Crc16_ok zV) zX)))))))))))) Tryz.func8 rfl TD.fParse_eq (fun d=>rfl)
end
section
set_option maxRecDepth 100000
open Go.LM
theorem TD.awake11_ok:ToldSound Tryz.prog 7 TD.awake11:=zY fit (zW (zU TD.fInfo_ok zV) (zW (zU TD.fBuild_ok zV) (zW (zU TD.fParse_ok zV) (zW (zU TD.r11Same_ok zV) zX)))) Tryz.func7 rfl TD.awake11_eq (fun d=>rfl)
theorem TD.lSpoilt_ok:ToldSound Tryz.prog 5 TD.lSpoilt:=zY fit (zW (zU TD.fParse_ok zV) (zW (zU TD.awake11_ok zV) zX)) Tryz.func5 rfl TD.lSpoilt_eq (fun d=>rfl)
end
end Go.Proofs.YtedcnpankkaboaaGreat.Dg
