/- FrX: FrFit FrAb FrM FrP FrF FrG FrC. -/
import Derived.Test.YtedcnpankkaboaaGreatProg
import Derived.Test.YtedcnpankkaboaaGreatLmH
import Derived.KernelRfl
set_option linter.unusedVariables false
namespace Go.Proofs.YtedcnpankkaboaaGreat.Dg
section
set_option maxRecDepth 100000
open Go.LM
theorem fit:fitP Tryz.prog=true:=by decide +kernel
end
section
open Go.LM
abbrev QS:=Int×Int×Int×Int×Int×List Int×(Int×Int×List Int×List Int×Unit)×Unit
abbrev QB:=Bool×Int×Int×Int×Int×Int×Int×Int×Int×Int
abbrev QF:=Bool×Int×Int×Int×Int×Int×Int×List QS
abbrev QH:=Bool×Int×Int×Int×Int×Int×Int
abbrev QI:=Int×Int×Int×Int×Int×Int×Int×Int×List UInt8
abbrev QT:=Int×Int×Int×Int×Int×List Int×Int×Int×List Int×List Int
abbrev QR:=Int×Int×List Int×List Int×Unit
abbrev QC:=Int×Bool×List Int×Int
abbrev tI:Ty:=.int .i64
abbrev tS:Ty:=tI.pr (tI.pr (tI.pr (tI.pr (tI.pr (tI.sl.pr ((tI.pr (tI.pr (tI.sl.pr (tI.sl.pr Ty.un)))).pr Ty.un))))))
abbrev tF:Ty:=tI.pr (tI.pr (tI.pr (tI.pr (tI.pr (tI.pr (tI.pr (tI.pr (Ty.str.pr Ty.un))))))))
end
end Go.Proofs.YtedcnpankkaboaaGreat.Dg
namespace Go.LM
section
def mFindX (k v:Ty) (x:k.D) (es:List (k.D×v.D)) (i:Nat):Option (Nat×v.D):=mapFind x es i
end
end Go.LM
namespace Go.Proofs.YtedcnpankkaboaaGreat.Dg
section
set_option maxRecDepth 100000
open Go.LM
noncomputable section
namespace LQ
def bNew.t :Tr (Int×List UInt8):=
 Tr.ret ((0:Int),[])
def bNew :Option (Int×List UInt8):=(bNew.t ).run
end LQ
def TD.bNew:Go.LM.Told:=⟨[],[],.ptr 0 0 [],[.vars [.dat tI,.full 1],.row (.int .u8) false],fun d=>LQ.bNew ⟩
theorem TD.bNew_eq:(fun d=>tFn (mkCxD Tryz.prog [2097220,2097249,2097248,2097181] []) Tryz.f14 .n TD.bNew d)=(fun d=>LQ.bNew.t ):=by kernel_rfl
namespace LQ
def at1.t (b0_0:Int) (row1:List UInt8):Tr (Int×Int×List UInt8):=
 Tr.ret (b0_0,b0_0,row1)
def at1 (b0_0:Int) (row1:List UInt8):Option (Int×Int×List UInt8):=(at1.t b0_0 row1).run
end LQ
def TD.at1:Go.LM.Told:=⟨[.ptr 0 0 []],[.vars [.dat tI,.full 1],.row (.int .u8) false],(.dat tI),[.vars [.dat tI,.full 1],.row (.int .u8) false],fun d=>LQ.at1 d.1 d.2⟩
theorem TD.at1_eq:(fun d=>tFn (mkCxD Tryz.prog [2097220,2097249,2097248,2097181] []) Tryz.f68 .n TD.at1 d)=(fun d=>LQ.at1.t d.1 d.2):=by kernel_rfl
namespace LQ
def on1.t (n:Int) (b0_0:Int) (row1:List UInt8):Tr (Int×List UInt8):=
 Tr.ret (w64 (b0_0+n),row1)
def on1 (n:Int) (b0_0:Int) (row1:List UInt8):Option (Int×List UInt8):=(on1.t n b0_0 row1).run
end LQ
def TD.on1:Go.LM.Told:=⟨[.ptr 0 0 [],.dat tI],[.vars [.dat tI,.full 1],.row (.int .u8) false],(.tup []),[.vars [.dat tI,.full 1],.row (.int .u8) false],fun d=>LQ.on1 d.1 d.2.1 d.2.2⟩
theorem TD.on1_eq:(fun d=>tFn (mkCxD Tryz.prog [2097220,2097249,2097248,2097181] []) Tryz.f98 .n TD.on1 d)=(fun d=>LQ.on1.t d.1 d.2.1 d.2.2):=by kernel_rfl
namespace LQ
def bit1.t (one:Bool) (b0_0:Int) (row1:List UInt8):Tr (Int×List UInt8):=
 Tr.bind _ (LQ.at1 b0_0 row1) ((0:Int),(0:Int),[]) fun r0=>Tr.need (r0.2.1=b0_0/\r0.2.2=row1/\True) (Tr.br (r0.1.tmod (8:Int) == 0) (Tr.need ((row1.length+1)*1<=140737488355328) (Tr.bind _ (Tr.br one (Tr.need (0<=w64 (Int.ofNat (row1++(List.replicate 1 (0:UInt8)).set 0 (0:UInt8)).length - 1)/\w64 (Int.ofNat (row1++(List.replicate 1 (0:UInt8)).set 0 (0:UInt8)).length - 1)<Int.ofNat (row1++(List.replicate 1 (0:UInt8)).set 0 (0:UInt8)).length) (Tr.bind _ (LQ.at1 b0_0 (row1++(List.replicate 1 (0:UInt8)).set 0 (0:UInt8))) ((0:Int),(0:Int),[]) fun r1=>Tr.need (r1.2.1=b0_0/\r1.2.2=row1++(List.replicate 1 (0:UInt8)).set 0 (0:UInt8)/\True) (Tr.need (0<=r1.1.tmod (8:Int)) (Tr.need (0<=w64 (Int.ofNat (row1++(List.replicate 1 (0:UInt8)).set 0 (0:UInt8)).length - 1)/\w64 (Int.ofNat (row1++(List.replicate 1 (0:UInt8)).set 0 (0:UInt8)).length - 1)<Int.ofNat (row1++(List.replicate 1 (0:UInt8)).set 0 (0:UInt8)).length) (Tr.ret (b0_0,(row1++(List.replicate 1 (0:UInt8)).set 0 (0:UInt8)).set (w64 (Int.ofNat (row1++(List.replicate 1 (0:UInt8)).set 0 (0:UInt8)).length - 1)).toNat (UInt8.ofNat (bitsI BinOp.or IntKind.u8 (Int.ofNat ((row1++(List.replicate 1 (0:UInt8)).set 0 (0:UInt8)).getD (w64 (Int.ofNat (row1++(List.replicate 1 (0:UInt8)).set 0 (0:UInt8)).length - 1)).toNat (0:UInt8)).toNat) (Int.ofNat (UInt8.ofNat ((128:Int) / p2 (r1.1.tmod (8:Int)) 8 % 256).toNat).toNat) % 256).toNat))))))) (Tr.ret (b0_0,row1++(List.replicate 1 (0:UInt8)).set 0 (0:UInt8)))).run ((0:Int),[]) fun r2=>Tr.bind _ (LQ.on1 (1:Int) r2.1 r2.2) ((0:Int),[]) fun r3=>Tr.ret (r3.1,r3.2))) (Tr.bind _ (Tr.br one (Tr.need (0<=w64 (Int.ofNat row1.length - 1)/\w64 (Int.ofNat row1.length - 1)<Int.ofNat row1.length) (Tr.bind _ (LQ.at1 b0_0 row1) ((0:Int),(0:Int),[]) fun r4=>Tr.need (r4.2.1=b0_0/\r4.2.2=row1/\True) (Tr.need (0<=r4.1.tmod (8:Int)) (Tr.need (0<=w64 (Int.ofNat row1.length - 1)/\w64 (Int.ofNat row1.length - 1)<Int.ofNat row1.length) (Tr.ret (b0_0,row1.set (w64 (Int.ofNat row1.length - 1)).toNat (UInt8.ofNat (bitsI BinOp.or IntKind.u8 (Int.ofNat (row1.getD (w64 (Int.ofNat row1.length - 1)).toNat (0:UInt8)).toNat) (Int.ofNat (UInt8.ofNat ((128:Int) / p2 (r4.1.tmod (8:Int)) 8 % 256).toNat).toNat) % 256).toNat))))))) (Tr.ret (b0_0,row1))).run ((0:Int),[]) fun r5=>Tr.bind _ (LQ.on1 (1:Int) r5.1 r5.2) ((0:Int),[]) fun r6=>Tr.ret (r6.1,r6.2)))
def bit1 (one:Bool) (b0_0:Int) (row1:List UInt8):Option (Int×List UInt8):=(bit1.t one b0_0 row1).run
end LQ
def TD.bit1:Go.LM.Told:=⟨[.ptr 0 0 [],.dat .bool],[.vars [.dat tI,.full 1],.row (.int .u8) false],(.tup []),[.vars [.dat tI,.full 2],.dead,.row (.int .u8) false],fun d=>LQ.bit1 d.1 d.2.1 d.2.2⟩
theorem TD.bit1_eq:(fun d=>tFn (mkCxD Tryz.prog [2097220,2097249,2097248,2097181] [(68,[TD.at1]),(98,[TD.on1])]) Tryz.f105 (.t (.t .n (.k [0,1] [0,1] [] [] .n .n)) (.t (.t .n (.k [0] [0] [] [] .n .n)) .n)) TD.bit1 d)=(fun d=>LQ.bit1.t d.1 d.2.1 d.2.2):=by kernel_rfl
namespace LQ
def lay1.l0 (n:Int×Int) (i:Int) (blk0:Int) (row2:List UInt8):Tr (Int×Int×List UInt8⊕Int×List UInt8):=
 Tr.br (decide (i>=0)) (Tr.need (0<=i) (Tr.bind _ (LQ.bit1 (IntKind.u64.wrap (bitsI BinOp.and IntKind.u64 (n.1 / p2 i 64) (1:Int)) == 1) blk0 row2) ((0:Int),[]) fun r0=>Tr.ret (Sum.inl (w64 (i - 1),r0.1,r0.2)))) (Tr.ret (Sum.inr (blk0,row2)))
def lay1.t (n:Int×Int) (width:Int) (b0_0:List UInt8):Tr (Int×List UInt8):=
 Tr.bind _ (loopO (fun (d:Int×Int×List UInt8)=>(lay1.l0 n d.1 d.2.1 d.2.2).run) (w64 (n.2 - 1),width,b0_0)) ((0:Int),[]) fun r1=>Tr.ret (r1.1,r1.2)
def lay1 (n:Int×Int) (width:Int) (b0_0:List UInt8):Option (Int×List UInt8):=(lay1.t n width b0_0).run
end LQ
def TD.lay1:Go.LM.Told:=⟨[.ptr 0 0 [],.dat (.int .u64),.dat tI],[.vars [.dat tI,.full 1],.row (.int .u8) false],(.tup []),[.vars [.dat tI,.full 2],.dead,.row (.int .u8) false],fun d=>LQ.lay1 d.1 d.2.1 d.2.2⟩
theorem TD.lay1_eq:(fun d=>tFn (mkCxD Tryz.prog [2097220,2097249,2097248,2097181] [(105,[TD.bit1])]) Tryz.f81 (.t .n (.k [] [] [] [] (.k [0,1] [0,1,6] [(0,[])] [] (.t (.t .n (.k [0,1,6] [0,1,6] [(0,[])] [] .n .n)) (.t (.k [0,1,6] [0,1,6] [] [] .n .n) .n)) .n) .n)) TD.lay1 d)=(fun d=>LQ.lay1.t d.1 d.2.1 d.2.2):=by kernel_rfl
namespace LQ
def put1.t (n:Int×Int) (width:Int) (b0_0:List UInt8):Tr (Int×Int×List UInt8):=
 Tr.br false (Tr.ret ((1:Int),width,b0_0)) (Tr.bind _ (Tr.br (decide (n.2<0)) (Tr.ret (true,width,b0_0)) (Tr.br (decide (n.2>64)) (Tr.ret (true,width,b0_0)) (Tr.br (decide (n.2<64)) (Tr.need (0<=n.2) (Tr.ret (decide (n.1>=IntKind.u64.wrap (1*p2 n.2 64)),width,b0_0))) (Tr.ret (false,width,b0_0))))).run (false,(0:Int),[]) fun r0=>Tr.br r0.1 (Tr.ret ((11:Int),r0.2.1,r0.2.2)) (Tr.bind _ (LQ.lay1 (n.1,n.2) r0.2.1 r0.2.2) ((0:Int),[]) fun r1=>Tr.ret ((0:Int),r1.1,r1.2)))
def put1 (n:Int×Int) (width:Int) (b0_0:List UInt8):Option (Int×Int×List UInt8):=(put1.t n width b0_0).run
end LQ
def TD.put1:Go.LM.Told:=⟨[.ptr 0 0 [],.dat (.int .u64),.dat tI],[.vars [.dat tI,.full 1],.row (.int .u8) false],(.dat tI),[.vars [.dat tI,.full 2],.dead,.row (.int .u8) false],fun d=>LQ.put1 d.1 d.2.1 d.2.2⟩
theorem TD.put1_eq:(fun d=>tFn (mkCxD Tryz.prog [2097220,2097249,2097248,2097181] [(81,[TD.lay1])]) Tryz.f46 (.t .n (.t (.k [0,1,2] [0,1,2] [] [6] (.t .n (.k [0,1,2] [0,1,2] [] [6] .n (.t (.k [0,1,2] [0,1,2,10] [] [] .n .n) (.k [0,1,2] [0,1,2] [] [6] .n .n)))) .n) .n)) TD.put1 d)=(fun d=>LQ.put1.t d.1 d.2.1 d.2.2):=by kernel_rfl
namespace LQ
def bfits.t (n:Int) (width:Int):Tr (Bool):=
 Tr.bind _ (Tr.br (decide (width>=1)) (Tr.br (decide (width<=64)) (Tr.need (0<=w64 (width - 1)) (Tr.ret (n / p2 (w64 (width - 1)) 64 == n / 9223372036854775808))) (Tr.ret false)) (Tr.ret false)).run false fun r0=>Tr.ret r0
def bfits (n:Int) (width:Int):Option (Bool):=(bfits.t n width).run
end LQ
def TD.bfits:Go.LM.Told:=⟨[(.dat tI),(.dat tI)],[],(.dat (Ty.bool)),[],fun d=>LQ.bfits d.1 d.2⟩
theorem TD.bfits_eq:(fun d=>tFn (mkCxD Tryz.prog [2097220,2097249,2097248,2097181] []) Tryz.f83 (.t .n (.t (.k [] [4] [] [] .n .n) .n)) TD.bfits d)=(fun d=>LQ.bfits.t d.1 d.2):=by kernel_rfl
namespace LQ
def sig1.t (n:Int×Int) (width:Int) (b0_0:List UInt8):Tr (Int×Int×List UInt8):=
 Tr.br false (Tr.ret ((1:Int),width,b0_0)) (Tr.bind _ (LQ.bfits n.1 n.2) false fun r0=>Tr.br (!r0) (Tr.ret ((11:Int),width,b0_0)) (Tr.bind _ (LQ.lay1 (IntKind.u64.wrap n.1,n.2) width b0_0) ((0:Int),[]) fun r1=>Tr.ret ((0:Int),r1.1,r1.2)))
def sig1 (n:Int×Int) (width:Int) (b0_0:List UInt8):Option (Int×Int×List UInt8):=(sig1.t n width b0_0).run
end LQ
def TD.sig1:Go.LM.Told:=⟨[.ptr 0 0 [],.dat tI,.dat tI],[.vars [.dat tI,.full 1],.row (.int .u8) false],(.dat tI),[.vars [.dat tI,.full 2],.dead,.row (.int .u8) false],fun d=>LQ.sig1 d.1 d.2.1 d.2.2⟩
theorem TD.sig1_eq:(fun d=>tFn (mkCxD Tryz.prog [2097220,2097249,2097248,2097181] [(83,[TD.bfits]),(81,[TD.lay1])]) Tryz.f49 (.t .n (.t (.k [0,1,2] [0,1,2] [] [6] (.t .n (.k [0,1,2] [0,1,2] [] [6] .n (.t .n (.k [0,1,2] [0,1,2] [] [6] .n .n)))) .n) .n)) TD.sig1 d)=(fun d=>LQ.sig1.t d.1 d.2.1 d.2.2):=by kernel_rfl
namespace LQ
def una1.l0 (n_l0:Int) (blk0:Int) (row2:List UInt8):Tr (Int×Int×List UInt8⊕Int×Int×List UInt8):=
 Tr.bind _ (Tr.br (decide (n_l0>=8)) (Tr.bind _ (LQ.at1 blk0 row2) ((0:Int),(0:Int),[]) fun r0=>Tr.need (r0.2.1=blk0/\r0.2.2=row2/\True) (Tr.ret (r0.1.tmod (8:Int) == 0,blk0,row2))) (Tr.ret (false,blk0,row2))).run (false,(0:Int),[]) fun r1=>Tr.br r1.1 (Tr.need ((r1.2.2.length+1)*1<=140737488355328) (Tr.bind _ (LQ.on1 (8:Int) r1.2.1 (r1.2.2++(List.replicate 1 (0:UInt8)).set 0 (0:UInt8))) ((0:Int),[]) fun r2=>Tr.ret (Sum.inl (w64 (n_l0 - 8),r2.1,r2.2)))) (Tr.ret (Sum.inr (n_l0,r1.2.1,r1.2.2)))
def una1.l2 (n_l2:Int) (blk0_l2:Int) (row2_l2:List UInt8):Tr (Int×Int×List UInt8⊕Int×Int×List UInt8):=
 Tr.bind _ (Tr.br (decide (n_l2>8)) (Tr.bind _ (LQ.at1 blk0_l2 row2_l2) ((0:Int),(0:Int),[]) fun r5=>Tr.need (r5.2.1=blk0_l2/\r5.2.2=row2_l2/\True) (Tr.ret (r5.1.tmod (8:Int) == 0,blk0_l2,row2_l2))) (Tr.ret (false,blk0_l2,row2_l2))).run (false,(0:Int),[]) fun r6=>Tr.br r6.1 (Tr.need ((r6.2.2.length+1)*1<=140737488355328) (Tr.bind _ (LQ.on1 (8:Int) r6.2.1 (r6.2.2++(List.replicate 1 (0:UInt8)).set 0 (0:UInt8))) ((0:Int),[]) fun r7=>Tr.ret (Sum.inl (w64 (n_l2 - 8),r7.1,r7.2)))) (Tr.ret (Sum.inr (n_l2,r6.2.1,r6.2.2)))
def una1.l1 (n_l1:Int) (blk0:Int) (row2:List UInt8):Tr (Int×Int×List UInt8⊕Int×List UInt8):=
 Tr.br (decide (n_l1>0)) (Tr.bind _ (LQ.bit1 false blk0 row2) ((0:Int),[]) fun r4=>Tr.bind _ (loopO (fun (d:Int×Int×List UInt8)=>(una1.l2 d.1 d.2.1 d.2.2).run) (n_l1,r4.1,r4.2)) ((0:Int),(0:Int),[]) fun r8=>Tr.ret (Sum.inl (w64 (r8.1 - 1),r8.2.1,r8.2.2))) (Tr.ret (Sum.inr (blk0,row2)))
def una1.t (n:Int) (b0_0:Int) (row1:List UInt8):Tr (Int×List UInt8):=
 Tr.bind _ (loopO (fun (d:Int×Int×List UInt8)=>(una1.l0 d.1 d.2.1 d.2.2).run) (n,b0_0,row1)) ((0:Int),(0:Int),[]) fun r3=>Tr.bind _ (loopO (fun (d:Int×Int×List UInt8)=>(una1.l1 d.1 d.2.1 d.2.2).run) (r3.1,r3.2.1,r3.2.2)) ((0:Int),[]) fun r9=>Tr.bind _ (LQ.bit1 true r9.1 r9.2) ((0:Int),[]) fun r10=>Tr.ret (r10.1,r10.2)
def una1 (n:Int) (b0_0:Int) (row1:List UInt8):Option (Int×List UInt8):=(una1.t n b0_0 row1).run
end LQ
def TD.una1:Go.LM.Told:=⟨[.ptr 0 0 [],.dat tI],[.vars [.dat tI,.full 1],.row (.int .u8) false],(.tup []),[.vars [.dat tI,.full 2],.dead,.row (.int .u8) false],fun d=>LQ.una1 d.1 d.2.1 d.2.2⟩
theorem TD.una1_eq:(fun d=>tFn (mkCxD Tryz.prog [2097220,2097249,2097248,2097181] [(68,[TD.at1]),(98,[TD.on1]),(105,[TD.bit1])]) Tryz.f82 (.t (.k [0] [0,1] [] [] (.k [0] [0,1] [(0,[0,1])] [] (.t (.t (.k [0,1] [0,1,13] [] [] .n .n) (.k [0,1] [0,1] [(0,[0,1])] [] .n .n)) (.k [0] [0,1] [] [] .n .n)) .n) .n) (.t (.k [0] [0] [] [] (.k [0] [0,1] [(2,[0])] [] (.t (.t .n (.k [0,1] [0,1] [(2,[0])] [] .n .n)) (.t (.k [0] [0,1] [] [] (.t .n (.k [0] [0,1] [] [] (.k [0] [0,1] [(4,[0,1])] [] (.t (.t (.k [0,1] [0,1,44] [] [] .n .n) (.k [0,1] [0,1] [(4,[0,1])] [] .n .n)) (.k [0] [0,1] [] [] .n .n)) .n) .n)) .n) .n)) .n) .n) .n)) TD.una1 d)=(fun d=>LQ.una1.t d.1 d.2.1 d.2.2):=by kernel_rfl
namespace LQ
def Una1.t (n:Int) (b0_0:Int) (row1:List UInt8):Tr (Int×Int×List UInt8):=
 Tr.br false (Tr.ret ((1:Int),b0_0,row1)) (Tr.bind _ (Tr.br (decide (n<0)) (Tr.ret (true,b0_0,row1)) (Tr.ret (decide (n>16777216),b0_0,row1))).run (false,(0:Int),[]) fun r0=>Tr.br r0.1 (Tr.ret ((11:Int),r0.2.1,r0.2.2)) (Tr.bind _ (LQ.una1 n r0.2.1 r0.2.2) ((0:Int),[]) fun r1=>Tr.ret ((0:Int),r1.1,r1.2)))
def Una1 (n:Int) (b0_0:Int) (row1:List UInt8):Option (Int×Int×List UInt8):=(Una1.t n b0_0 row1).run
end LQ
def TD.Una1:Go.LM.Told:=⟨[.ptr 0 0 [],.dat tI],[.vars [.dat tI,.full 1],.row (.int .u8) false],(.dat tI),[.vars [.dat tI,.full 2],.dead,.row (.int .u8) false],fun d=>LQ.Una1 d.1 d.2.1 d.2.2⟩
theorem TD.Una1_eq:(fun d=>tFn (mkCxD Tryz.prog [2097220,2097249,2097248,2097181] [(82,[TD.una1])]) Tryz.f47 (.t .n (.t (.k [0,1] [0,1] [] [4] (.t .n (.k [0,1] [0,1] [] [4] .n (.t (.k [0,1] [0,1,8] [] [] .n .n) (.k [0,1] [0,1] [] [4] .n .n)))) .n) .n)) TD.Una1 d)=(fun d=>LQ.Una1.t d.1 d.2.1 d.2.2):=by kernel_rfl
namespace LQ
def sfits.t (n:Int) (width:Int):Tr (Bool):=
 Tr.need (0<=w64 (width - 1)) (Tr.ret (n / p2 (w64 (width - 1)) 64 == n / 9223372036854775808))
def sfits (n:Int) (width:Int):Option (Bool):=(sfits.t n width).run
end LQ
def TD.sfits:Go.LM.Told:=⟨[(.dat tI),(.dat tI)],[],(.dat (Ty.bool)),[],fun d=>LQ.sfits d.1 d.2⟩
theorem TD.sfits_eq:(fun d=>tFn (mkCxD Tryz.prog [2097220,2097249,2097248,2097181] []) Tryz.f64 .n TD.sfits d)=(fun d=>LQ.sfits.t d.1 d.2):=by kernel_rfl
namespace LQ
def bare.t (s:QS):Tr (Bool):=
 Tr.bind _ (Tr.br (s.2.1 == 0) (Tr.br (s.2.2.2.2.2.2.1.1 == 0) (Tr.br (s.2.2.2.2.2.2.1.2.1 == 0) (Tr.br (Int.ofNat s.2.2.2.2.2.2.1.2.2.1.length == 0) (Tr.ret (Int.ofNat s.2.2.2.2.2.2.1.2.2.2.1.length == 0)) (Tr.ret false)) (Tr.ret false)) (Tr.ret false)) (Tr.ret false)).run false fun r0=>Tr.ret r0
def bare (s:QS):Option (Bool):=(bare.t s).run
end LQ
def TD.bare:Go.LM.Told:=⟨[(.dat tS)],[],(.dat (Ty.bool)),[],fun d=>LQ.bare d⟩
theorem TD.bare_eq:(fun d=>tFn (mkCxD Tryz.prog [2097220,2097249,2097248,2097181] []) Tryz.f71 (.t .n (.t (.k [] [2] [] [] .n .n) .n)) TD.bare d)=(fun d=>LQ.bare.t d):=by kernel_rfl
namespace LQ
def warm.t (s:QS) (block:Int):Tr (Int):=
 Tr.br (s.1 == 0) (Tr.ret (1:Int)) (Tr.br (s.1 == 1) (Tr.ret block) (Tr.ret s.2.1))
def warm (s:QS) (block:Int):Option (Int):=(warm.t s block).run
end LQ
def TD.warm:Go.LM.Told:=⟨[(.dat tS),(.dat tI)],[],(.dat tI),[],fun d=>LQ.warm d.1 d.2⟩
theorem TD.warm_eq:(fun d=>tFn (mkCxD Tryz.prog [2097220,2097249,2097248,2097181] []) Tryz.f48 (.t .n (.t (.t .n (.k [2] [2] [] [4] (.t .n (.k [2] [2] [] [4] .n (.t .n (.k [2] [2] [] [4] .n .n)))) .n)) .n)) TD.warm d)=(fun d=>LQ.warm.t d.1 d.2):=by kernel_rfl
namespace LQ
def Shift.l0 (l:List Int) (by_:Int) (t17:Int) (row0:List Int):Tr (Int×List Int⊕Int⊕List Int):=
 Tr.br (decide (t17<Int.ofNat l.length)) (Tr.need (0<=t17/\t17<Int.ofNat l.length) (Tr.need (0<=by_) (Tr.need (0<=by_) (Tr.br (w64 (l.getD t17.toNat (0:Int) / p2 by_ 64*p2 by_ 64) != l.getD t17.toNat (0:Int)) (Tr.ret (Sum.inr (Sum.inl (1:Int)))) (Tr.need (0<=by_) (Tr.need ((row0.length+((List.replicate 1 (0:Int)).set 0 (l.getD t17.toNat (0:Int) / p2 by_ 64)).length)*8<=140737488355328) (Tr.ret (Sum.inl (w64 (t17+1),row0++(List.replicate 1 (0:Int)).set 0 (l.getD t17.toNat (0:Int) / p2 by_ 64)))))))))) (Tr.ret (Sum.inr (Sum.inr row0)))
def Shift.t (l:List Int) (by_:Int):Tr (List Int×Int):=
 Tr.bind _ (Tr.br (decide (by_<0)) (Tr.ret true) (Tr.ret (decide (by_>31)))).run false fun r0=>Tr.br r0 (Tr.ret ([],(1:Int))) (Tr.bind _ (loopO (fun (d:Int×List Int)=>(Shift.l0 l by_ d.1 d.2).run) ((0:Int),[])) (Sum.inl (0:Int)) fun r1=>Tr.cs _ _ r1 (0:Int) [] (fun r2=>Tr.ret ([],r2)) fun r3=>Tr.ret (r3,(0:Int)))
def Shift (l:List Int) (by_:Int):Option (List Int×Int):=(Shift.t l by_).run
end LQ
def TD.Shift:Go.LM.Told:=⟨[(.dat (tI.sl)),(.dat tI)],[],(.tup [(.dat (tI.sl)),(.dat tI)]),[],fun d=>LQ.Shift d.1 d.2⟩
theorem TD.Shift_eq:(fun d=>tFn (mkCxD Tryz.prog [2097220,2097249,2097248,2097181] []) Tryz.f75 (.t .n (.t (.t (.k [0,1] [0,1,14] [] [] .n .n) (.k [0,1] [0,1] [] [4,5] .n .n)) (.t .n (.t (.t .n (.k [] [6] [] [4,5] (.k [1,15,16] [1,6,15,16,17] [(0,[6])] [4,5] (.t .n (.t (.k [1,6,15,16,17] [1,6,15,16,17] [(0,[6])] [] .n .n) (.t (.k [1,15,16,17] [1,6,15,16,17] [] [4,5] (.t .n (.t (.t .n (.k [1,6,8,15,16,17] [1,6,8,15,16,17] [] [4,5] .n .n)) .n)) .n) .n))) .n) .n)) .n)))) TD.Shift d)=(fun d=>LQ.Shift.t d.1 d.2):=by kernel_rfl
namespace LQ
def rshape.t (r:QR) (block:Int) (order:Int):Tr (Bool):=
 Tr.bind _ (Tr.br (w64 (bitsI BinOp.andNot IntKind.i64 r.1 (1:Int)) != 0) (Tr.ret (true,r.1,r.2.1,r.2.2.1,r.2.2.2.1)) (Tr.br (decide (r.2.1<0)) (Tr.ret (true,r.1,r.2.1,r.2.2.1,r.2.2.2.1)) (Tr.br (decide (r.2.1>15)) (Tr.ret (true,r.1,r.2.1,r.2.2.1,r.2.2.2.1)) (Tr.br (decide (block<1)) (Tr.ret (true,r.1,r.2.1,r.2.2.1,r.2.2.2.1)) (Tr.br (decide (block>65535)) (Tr.ret (true,r.1,r.2.1,r.2.2.1,r.2.2.2.1)) (Tr.br (decide (order<0)) (Tr.ret (true,r.1,r.2.1,r.2.2.1,r.2.2.2.1)) (Tr.ret (decide (order>32),r.1,r.2.1,r.2.2.1,r.2.2.2.1)))))))).run (false,(0:Int),(0:Int),[],[]) fun r0=>Tr.br r0.1 (Tr.ret false) (Tr.need (0<=r0.2.2.1) (Tr.bind _ (Tr.need (0<=r0.2.2.1) (Tr.br (w64 (block / p2 r0.2.2.1 64*p2 r0.2.2.1 64) == block) (Tr.ret (decide (block / p2 r0.2.2.1 64>=order))) (Tr.ret false))).run false fun r1=>Tr.ret r1))
def rshape (r:QR) (block:Int) (order:Int):Option (Bool):=(rshape.t r block order).run
end LQ
def TD.rshape:Go.LM.Told:=⟨[(.dat (tI.pr (tI.pr (tI.sl.pr (tI.sl.pr Ty.un))))),(.dat tI),(.dat tI)],[],(.dat (Ty.bool)),[],fun d=>LQ.rshape d.1 d.2.1 d.2.2⟩
theorem TD.rshape_eq:(fun d=>tFn (mkCxD Tryz.prog [2097220,2097249,2097248,2097181] []) Tryz.f99 (.t .n (.t (.t (.k [1,2,3] [1,2,3,37] [] [] .n .n) (.k [1,2,3] [1,2,3] [] [6] .n .n)) (.t .n (.t (.k [] [6] [] [] .n .n) .n)))) TD.rshape d)=(fun d=>LQ.rshape.t d.1 d.2.1 d.2.2):=by kernel_rfl
namespace LQ
def rCheck.l0 (r2:Int×Int×Int×List Int×List Int) (t40:Int) (blk0_0:Int) (blk0_1:Int) (blk0_2:List Int) (blk0_3:List Int):Tr (Int×Int×Int×List Int×List Int⊕Int⊕PUnit):=
 Tr.br (decide (t40<Int.ofNat r2.2.2.2.1.length)) (Tr.need (0<=t40/\t40<Int.ofNat r2.2.2.2.1.length) (Tr.need (0<=t40/\t40<Int.ofNat blk0_3.length) (Tr.bind _ (Tr.br (decide (r2.2.2.2.1.getD t40.toNat (0:Int)<0)) (Tr.ret (true,blk0_0,blk0_1,blk0_2,blk0_3)) (Tr.br (decide (r2.2.2.2.1.getD t40.toNat (0:Int)>r2.1)) (Tr.ret (true,blk0_0,blk0_1,blk0_2,blk0_3)) (Tr.br (decide (blk0_3.getD t40.toNat (0:Int)<(-1:Int))) (Tr.ret (true,blk0_0,blk0_1,blk0_2,blk0_3)) (Tr.br (decide (blk0_3.getD t40.toNat (0:Int)>31)) (Tr.ret (true,blk0_0,blk0_1,blk0_2,blk0_3)) (Tr.br (decide (blk0_3.getD t40.toNat (0:Int)>=0)) (Tr.ret (r2.2.2.2.1.getD t40.toNat (0:Int) != 0,blk0_0,blk0_1,blk0_2,blk0_3)) (Tr.ret (false,blk0_0,blk0_1,blk0_2,blk0_3))))))).run (false,(0:Int),(0:Int),[],[]) fun r3=>Tr.br r3.1 (Tr.ret (Sum.inr (Sum.inl (60:Int)))) (Tr.ret (Sum.inl (w64 (t40+1),r3.2.1,r3.2.2.1,r3.2.2.2.1,r3.2.2.2.2)))))) (Tr.ret (Sum.inr (Sum.inr ())))
def rCheck.t (r:QR) (block:Int) (order:Int):Tr (Int):=
 Tr.bind _ (Tr.bind _ (LQ.rshape (r.1,r.2.1,r.2.2.1,r.2.2.2.1,()) block order) false fun r0=>Tr.br (!r0) (Tr.ret (true,r.1,r.2.1,r.2.2.1,r.2.2.2.1)) (Tr.need (0<=r.2.1) (Tr.br (Int.ofNat r.2.2.1.length != w64 (1*p2 r.2.1 64)) (Tr.ret (true,r.1,r.2.1,r.2.2.1,r.2.2.2.1)) (Tr.need (0<=r.2.1) (Tr.ret (Int.ofNat r.2.2.2.1.length != w64 (1*p2 r.2.1 64),r.1,r.2.1,r.2.2.1,r.2.2.2.1)))))).run (false,(0:Int),(0:Int),[],[]) fun r1=>Tr.br r1.1 (Tr.ret (60:Int)) (Tr.bind _ (Tr.br (r1.2.1 == 1) (Tr.ret ((30:Int),r1.2.1,r1.2.2.1,r1.2.2.2.1,r1.2.2.2.2)) (Tr.ret ((14:Int),r1.2.1,r1.2.2.1,r1.2.2.2.1,r1.2.2.2.2))).run ((0:Int),(0:Int),(0:Int),[],[]) fun r2=>Tr.bind _ (loopO (fun (d:Int×Int×Int×List Int×List Int)=>(rCheck.l0 r2 d.1 d.2.1 d.2.2.1 d.2.2.2.1 d.2.2.2.2).run) ((0:Int),r2.2.1,r2.2.2.1,r2.2.2.2.1,r2.2.2.2.2)) (Sum.inl (0:Int)) fun r4=>Tr.cs _ _ r4 (0:Int) () (fun r5=>Tr.ret r5) fun r6=>Tr.ret (0:Int))
def rCheck (r:QR) (block:Int) (order:Int):Option (Int):=(rCheck.t r block order).run
end LQ
def TD.rCheck:Go.LM.Told:=⟨[(.dat (tI.pr (tI.pr (tI.sl.pr (tI.sl.pr Ty.un))))),(.dat tI),(.dat tI)],[],(.dat tI),[],fun d=>LQ.rCheck d.1 d.2.1 d.2.2⟩
theorem TD.rCheck_eq:(fun d=>tFn (mkCxD Tryz.prog [2097220,2097249,2097248,2097181] [(99,[TD.rshape])]) Tryz.f72 (.t .n (.t (.t (.k [3] [3,33] [] [] .n .n) (.k [3] [3] [] [6] .n .n)) (.t .n (.t (.t .n (.k [3] [3,7] [] [] .n .n)) (.t (.t .n (.k [] [] [] [6] (.k [3,7,38,39] [3,7,38,39,40] [(0,[])] [6] (.t .n (.t (.k [3,7,38,39,40] [3,7,38,39,40] [(0,[])] [] .n .n) (.t (.k [3,7,38,39,40] [3,7,38,39,40] [] [6] (.t .n (.t .n (.t (.k [3,7,38,39,40] [3,7,38,39,40,72] [] [] .n .n) (.k [3,7,38,39,40] [3,7,38,39,40] [] [6] .n .n)))) .n) .n))) .n) .n)) .n))))) TD.rCheck d)=(fun d=>LQ.rCheck.t d.1 d.2.1 d.2.2):=by kernel_rfl
namespace LQ
def chk1.t (c:Int) (b0_0:Int) (b0_1:Int) (b0_2:Int) (b0_3:Int) (b0_4:Int) (b0_5:List Int) (b0_6:Int) (b0_7:Int) (b0_8:List Int) (b0_9:List Int):Tr (Bool×QT):=
 Tr.bind _ (LQ.sfits c b0_3) false fun r0=>Tr.ret (!r0,b0_0,b0_1,b0_2,b0_3,b0_4,b0_5,b0_6,b0_7,b0_8,b0_9)
def chk1 (c:Int) (b0_0:Int) (b0_1:Int) (b0_2:Int) (b0_3:Int) (b0_4:Int) (b0_5:List Int) (b0_6:Int) (b0_7:Int) (b0_8:List Int) (b0_9:List Int):Option (Bool×QT):=(chk1.t c b0_0 b0_1 b0_2 b0_3 b0_4 b0_5 b0_6 b0_7 b0_8 b0_9).run
end LQ
def TD.chk1:Go.LM.Told:=⟨[.dat tI,.ptr 0 0 []],[.vars [.dat tI,.dat tI,.dat tI,.dat tI,.dat tI,.dat (.sl (.int .i64)),.dat tI,.dat tI,.dat (.sl (.int .i64)),.dat (.sl (.int .i64))]],(.dat (Ty.bool)),[.vars [.dat tI,.dat tI,.dat tI,.dat tI,.dat tI,.dat (.sl (.int .i64)),.dat tI,.dat tI,.dat (.sl (.int .i64)),.dat (.sl (.int .i64))]],fun d=>LQ.chk1 d.1 d.2.1 d.2.2.1 d.2.2.2.1 d.2.2.2.2.1 d.2.2.2.2.2.1 d.2.2.2.2.2.2.1 d.2.2.2.2.2.2.2.1 d.2.2.2.2.2.2.2.2.1 d.2.2.2.2.2.2.2.2.2.1 d.2.2.2.2.2.2.2.2.2.2⟩
theorem TD.chk1_eq:(fun d=>tFn (mkCxD Tryz.prog [2097220,2097249,2097248,2097181] [(64,[TD.sfits])]) Tryz.f70 .n TD.chk1 d)=(fun d=>LQ.chk1.t d.1 d.2.1 d.2.2.1 d.2.2.2.1 d.2.2.2.2.1 d.2.2.2.2.2.1 d.2.2.2.2.2.2.1 d.2.2.2.2.2.2.2.1 d.2.2.2.2.2.2.2.2.1 d.2.2.2.2.2.2.2.2.2.1 d.2.2.2.2.2.2.2.2.2.2):=by kernel_rfl
namespace LQ
def IdxF.l0 (s:List Int) (t8:Int) (blk0_0:Int) (blk0_1:Int) (blk0_2:Int) (blk0_3:Int) (blk0_4:Int) (blk0_5:List Int) (blk0_6:Int) (blk0_7:Int) (blk0_8:List Int) (blk0_9:List Int):Tr (Int×QT⊕Int×QT⊕QT):=
 Tr.br (decide (t8<Int.ofNat s.length)) (Tr.need (0<=t8/\t8<Int.ofNat s.length) (Tr.bind _ (LQ.chk1 (s.getD t8.toNat (0:Int)) blk0_0 blk0_1 blk0_2 blk0_3 blk0_4 blk0_5 blk0_6 blk0_7 blk0_8 blk0_9) (false,(0:Int),(0:Int),(0:Int),(0:Int),(0:Int),[],(0:Int),(0:Int),[],[]) fun r0=>Tr.br r0.1 (Tr.ret (Sum.inr (Sum.inl (t8,r0.2.1,r0.2.2.1,r0.2.2.2.1,r0.2.2.2.2.1,r0.2.2.2.2.2.1,r0.2.2.2.2.2.2.1,r0.2.2.2.2.2.2.2.1,r0.2.2.2.2.2.2.2.2.1,r0.2.2.2.2.2.2.2.2.2.1,r0.2.2.2.2.2.2.2.2.2.2)))) (Tr.ret (Sum.inl (w64 (t8+1),r0.2.1,r0.2.2.1,r0.2.2.2.1,r0.2.2.2.2.1,r0.2.2.2.2.2.1,r0.2.2.2.2.2.2.1,r0.2.2.2.2.2.2.2.1,r0.2.2.2.2.2.2.2.2.1,r0.2.2.2.2.2.2.2.2.2.1,r0.2.2.2.2.2.2.2.2.2.2))))) (Tr.ret (Sum.inr (Sum.inr (blk0_0,blk0_1,blk0_2,blk0_3,blk0_4,blk0_5,blk0_6,blk0_7,blk0_8,blk0_9))))
def IdxF.t (s:List Int) (b0_0:Int) (b0_1:Int) (b0_2:Int) (b0_3:Int) (b0_4:Int) (b0_5:List Int) (b0_6:Int) (b0_7:Int) (b0_8:List Int) (b0_9:List Int):Tr (Int×QT):=
 Tr.bind _ (loopO (fun (d:Int×QT)=>(IdxF.l0 s d.1 d.2.1 d.2.2.1 d.2.2.2.1 d.2.2.2.2.1 d.2.2.2.2.2.1 d.2.2.2.2.2.2.1 d.2.2.2.2.2.2.2.1 d.2.2.2.2.2.2.2.2.1 d.2.2.2.2.2.2.2.2.2.1 d.2.2.2.2.2.2.2.2.2.2).run) ((0:Int),b0_0,b0_1,b0_2,b0_3,b0_4,b0_5,b0_6,b0_7,b0_8,b0_9)) (Sum.inl ((0:Int),(0:Int),(0:Int),(0:Int),(0:Int),(0:Int),[],(0:Int),(0:Int),[],[])) fun r1=>Tr.cs _ _ r1 ((0:Int),(0:Int),(0:Int),(0:Int),(0:Int),(0:Int),[],(0:Int),(0:Int),[],[]) ((0:Int),(0:Int),(0:Int),(0:Int),(0:Int),[],(0:Int),(0:Int),[],[]) (fun r2=>Tr.ret (r2.1,r2.2.1,r2.2.2.1,r2.2.2.2.1,r2.2.2.2.2.1,r2.2.2.2.2.2.1,r2.2.2.2.2.2.2.1,r2.2.2.2.2.2.2.2.1,r2.2.2.2.2.2.2.2.2.1,r2.2.2.2.2.2.2.2.2.2.1,r2.2.2.2.2.2.2.2.2.2.2)) fun r3=>Tr.ret ((-1:Int),r3.1,r3.2.1,r3.2.2.1,r3.2.2.2.1,r3.2.2.2.2.1,r3.2.2.2.2.2.1,r3.2.2.2.2.2.2.1,r3.2.2.2.2.2.2.2.1,r3.2.2.2.2.2.2.2.2.1,r3.2.2.2.2.2.2.2.2.2)
def IdxF (s:List Int) (b0_0:Int) (b0_1:Int) (b0_2:Int) (b0_3:Int) (b0_4:Int) (b0_5:List Int) (b0_6:Int) (b0_7:Int) (b0_8:List Int) (b0_9:List Int):Option (Int×QT):=(IdxF.t s b0_0 b0_1 b0_2 b0_3 b0_4 b0_5 b0_6 b0_7 b0_8 b0_9).run
end LQ
def TD.IdxF:Go.LM.Told:=⟨[.dat (.sl (.int .i64)),.fn 70 [.ptr 0 0 []]],[.vars [.dat tI,.dat tI,.dat tI,.dat tI,.dat tI,.dat (.sl (.int .i64)),.dat tI,.dat tI,.dat (.sl (.int .i64)),.dat (.sl (.int .i64))]],(.dat tI),[.vars [.dat tI,.dat tI,.dat tI,.dat tI,.dat tI,.dat (.sl (.int .i64)),.dat tI,.dat tI,.dat (.sl (.int .i64)),.dat (.sl (.int .i64))]],fun d=>LQ.IdxF d.1 d.2.1 d.2.2.1 d.2.2.2.1 d.2.2.2.2.1 d.2.2.2.2.2.1 d.2.2.2.2.2.2.1 d.2.2.2.2.2.2.2.1 d.2.2.2.2.2.2.2.2.1 d.2.2.2.2.2.2.2.2.2.1 d.2.2.2.2.2.2.2.2.2.2⟩
theorem TD.IdxF_eq:(fun d=>tFn (mkCxD Tryz.prog [2097220,2097249,2097248,2097181] [(70,[TD.chk1])]) Tryz.f74 (.t .n (.t (.t .n (.k [] [] [] [4] (.k [0,1,7] [0,1,7,8] [(0,[])] [4] (.t .n (.t (.k [0,1,7,8] [0,1,7,8] [(0,[])] [] .n .n) (.t (.k [0,1,7,8] [0,1,7,8] [] [4] (.t .n (.t .n (.k [0,1,7,8] [0,1,7,8] [] [4] .n .n))) .n) .n))) .n) .n)) .n)) TD.IdxF d)=(fun d=>LQ.IdxF.t d.1 d.2.1 d.2.2.1 d.2.2.2.1 d.2.2.2.2.1 d.2.2.2.2.2.1 d.2.2.2.2.2.2.1 d.2.2.2.2.2.2.2.1 d.2.2.2.2.2.2.2.2.1 d.2.2.2.2.2.2.2.2.2.1 d.2.2.2.2.2.2.2.2.2.2):=by kernel_rfl
namespace LQ
def ConF.t (s:List Int) (b0_0:Int) (b0_1:Int) (b0_2:Int) (b0_3:Int) (b0_4:Int) (b0_5:List Int) (b0_6:Int) (b0_7:Int) (b0_8:List Int) (b0_9:List Int):Tr (Bool×QT):=
 Tr.bind _ (LQ.IdxF s b0_0 b0_1 b0_2 b0_3 b0_4 b0_5 b0_6 b0_7 b0_8 b0_9) ((0:Int),(0:Int),(0:Int),(0:Int),(0:Int),(0:Int),[],(0:Int),(0:Int),[],[]) fun r0=>Tr.ret (decide (r0.1>=0),r0.2.1,r0.2.2.1,r0.2.2.2.1,r0.2.2.2.2.1,r0.2.2.2.2.2.1,r0.2.2.2.2.2.2.1,r0.2.2.2.2.2.2.2.1,r0.2.2.2.2.2.2.2.2.1,r0.2.2.2.2.2.2.2.2.2.1,r0.2.2.2.2.2.2.2.2.2.2)
def ConF (s:List Int) (b0_0:Int) (b0_1:Int) (b0_2:Int) (b0_3:Int) (b0_4:Int) (b0_5:List Int) (b0_6:Int) (b0_7:Int) (b0_8:List Int) (b0_9:List Int):Option (Bool×QT):=(ConF.t s b0_0 b0_1 b0_2 b0_3 b0_4 b0_5 b0_6 b0_7 b0_8 b0_9).run
end LQ
def TD.ConF:Go.LM.Told:=⟨[.dat (.sl (.int .i64)),.fn 70 [.ptr 0 0 []]],[.vars [.dat tI,.dat tI,.dat tI,.dat tI,.dat tI,.dat (.sl (.int .i64)),.dat tI,.dat tI,.dat (.sl (.int .i64)),.dat (.sl (.int .i64))]],(.dat (Ty.bool)),[.vars [.dat tI,.dat tI,.dat tI,.dat tI,.dat tI,.dat (.sl (.int .i64)),.dat tI,.dat tI,.dat (.sl (.int .i64)),.dat (.sl (.int .i64))]],fun d=>LQ.ConF d.1 d.2.1 d.2.2.1 d.2.2.2.1 d.2.2.2.2.1 d.2.2.2.2.2.1 d.2.2.2.2.2.2.1 d.2.2.2.2.2.2.2.1 d.2.2.2.2.2.2.2.2.1 d.2.2.2.2.2.2.2.2.2.1 d.2.2.2.2.2.2.2.2.2.2⟩
theorem TD.ConF_eq:(fun d=>tFn (mkCxD Tryz.prog [2097220,2097249,2097248,2097181] [(74,[TD.IdxF]),(70,[TD.chk1])]) Tryz.f39 .n TD.ConF d)=(fun d=>LQ.ConF.t d.1 d.2.1 d.2.2.1 d.2.2.2.1 d.2.2.2.2.1 d.2.2.2.2.2.1 d.2.2.2.2.2.2.1 d.2.2.2.2.2.2.2.1 d.2.2.2.2.2.2.2.2.1 d.2.2.2.2.2.2.2.2.2.1 d.2.2.2.2.2.2.2.2.2.2):=by kernel_rfl
namespace LQ
def Check.t (s:QS) (block:Int) (width:Int):Tr (Int):=
 Tr.bind _ (Tr.br (decide (block<1)) (Tr.ret (true,s.1,s.2.1,s.2.2.1,s.2.2.2.1,s.2.2.2.2.1,s.2.2.2.2.2.1,s.2.2.2.2.2.2.1.1,s.2.2.2.2.2.2.1.2.1,s.2.2.2.2.2.2.1.2.2.1,s.2.2.2.2.2.2.1.2.2.2.1)) (Tr.br (decide (block>65535)) (Tr.ret (true,s.1,s.2.1,s.2.2.1,s.2.2.2.1,s.2.2.2.2.1,s.2.2.2.2.2.1,s.2.2.2.2.2.2.1.1,s.2.2.2.2.2.2.1.2.1,s.2.2.2.2.2.2.1.2.2.1,s.2.2.2.2.2.2.1.2.2.2.1)) (Tr.br (decide (width<1)) (Tr.ret (true,s.1,s.2.1,s.2.2.1,s.2.2.2.1,s.2.2.2.2.1,s.2.2.2.2.2.1,s.2.2.2.2.2.2.1.1,s.2.2.2.2.2.2.1.2.1,s.2.2.2.2.2.2.1.2.2.1,s.2.2.2.2.2.2.1.2.2.2.1)) (Tr.br (decide (width>33)) (Tr.ret (true,s.1,s.2.1,s.2.2.1,s.2.2.2.1,s.2.2.2.2.1,s.2.2.2.2.2.1,s.2.2.2.2.2.2.1.1,s.2.2.2.2.2.2.1.2.1,s.2.2.2.2.2.2.1.2.2.1,s.2.2.2.2.2.2.1.2.2.2.1)) (Tr.br (decide (s.2.2.1<0)) (Tr.ret (true,s.1,s.2.1,s.2.2.1,s.2.2.2.1,s.2.2.2.2.1,s.2.2.2.2.2.1,s.2.2.2.2.2.2.1.1,s.2.2.2.2.2.2.1.2.1,s.2.2.2.2.2.2.1.2.2.1,s.2.2.2.2.2.2.1.2.2.2.1)) (Tr.ret (decide (s.2.2.1>=width),s.1,s.2.1,s.2.2.1,s.2.2.2.1,s.2.2.2.2.1,s.2.2.2.2.2.1,s.2.2.2.2.2.2.1.1,s.2.2.2.2.2.2.1.2.1,s.2.2.2.2.2.2.1.2.2.1,s.2.2.2.2.2.2.1.2.2.2.1))))))).run (false,(0:Int),(0:Int),(0:Int),(0:Int),(0:Int),[],(0:Int),(0:Int),[],[]) fun r0=>Tr.br r0.1 (Tr.ret (60:Int)) (Tr.bind _ (Tr.bind _ (Tr.bind _ (Tr.br (r0.2.1 == 3) (Tr.bind _ (Tr.br (decide (r0.2.2.1>=1)) (Tr.br (decide (r0.2.2.1<=32)) (Tr.br (decide (r0.2.2.2.2.1>=1)) (Tr.br (decide (r0.2.2.2.2.1<=15)) (Tr.br (decide (r0.2.2.2.2.2.1>=0)) (Tr.br (decide (r0.2.2.2.2.2.1<=15)) (Tr.br (Int.ofNat r0.2.2.2.2.2.2.1.length == r0.2.2.1) (Tr.bind _ (LQ.ConF r0.2.2.2.2.2.2.1 r0.2.1 r0.2.2.1 r0.2.2.2.1 r0.2.2.2.2.1 r0.2.2.2.2.2.1 r0.2.2.2.2.2.2.1 r0.2.2.2.2.2.2.2.1 r0.2.2.2.2.2.2.2.2.1 r0.2.2.2.2.2.2.2.2.2.1 r0.2.2.2.2.2.2.2.2.2.2) (false,(0:Int),(0:Int),(0:Int),(0:Int),(0:Int),[],(0:Int),(0:Int),[],[]) fun r1=>Tr.ret (!r1.1,r1.2.1,r1.2.2.1,r1.2.2.2.1,r1.2.2.2.2.1,r1.2.2.2.2.2.1,r1.2.2.2.2.2.2.1,r1.2.2.2.2.2.2.2.1,r1.2.2.2.2.2.2.2.2.1,r1.2.2.2.2.2.2.2.2.2.1,r1.2.2.2.2.2.2.2.2.2.2)) (Tr.ret (false,r0.2.1,r0.2.2.1,r0.2.2.2.1,r0.2.2.2.2.1,r0.2.2.2.2.2.1,r0.2.2.2.2.2.2.1,r0.2.2.2.2.2.2.2.1,r0.2.2.2.2.2.2.2.2.1,r0.2.2.2.2.2.2.2.2.2.1,r0.2.2.2.2.2.2.2.2.2.2))) (Tr.ret (false,r0.2.1,r0.2.2.1,r0.2.2.2.1,r0.2.2.2.2.1,r0.2.2.2.2.2.1,r0.2.2.2.2.2.2.1,r0.2.2.2.2.2.2.2.1,r0.2.2.2.2.2.2.2.2.1,r0.2.2.2.2.2.2.2.2.2.1,r0.2.2.2.2.2.2.2.2.2.2))) (Tr.ret (false,r0.2.1,r0.2.2.1,r0.2.2.2.1,r0.2.2.2.2.1,r0.2.2.2.2.2.1,r0.2.2.2.2.2.2.1,r0.2.2.2.2.2.2.2.1,r0.2.2.2.2.2.2.2.2.1,r0.2.2.2.2.2.2.2.2.2.1,r0.2.2.2.2.2.2.2.2.2.2))) (Tr.ret (false,r0.2.1,r0.2.2.1,r0.2.2.2.1,r0.2.2.2.2.1,r0.2.2.2.2.2.1,r0.2.2.2.2.2.2.1,r0.2.2.2.2.2.2.2.1,r0.2.2.2.2.2.2.2.2.1,r0.2.2.2.2.2.2.2.2.2.1,r0.2.2.2.2.2.2.2.2.2.2))) (Tr.ret (false,r0.2.1,r0.2.2.1,r0.2.2.2.1,r0.2.2.2.2.1,r0.2.2.2.2.2.1,r0.2.2.2.2.2.2.1,r0.2.2.2.2.2.2.2.1,r0.2.2.2.2.2.2.2.2.1,r0.2.2.2.2.2.2.2.2.2.1,r0.2.2.2.2.2.2.2.2.2.2))) (Tr.ret (false,r0.2.1,r0.2.2.1,r0.2.2.2.1,r0.2.2.2.2.1,r0.2.2.2.2.2.1,r0.2.2.2.2.2.2.1,r0.2.2.2.2.2.2.2.1,r0.2.2.2.2.2.2.2.2.1,r0.2.2.2.2.2.2.2.2.2.1,r0.2.2.2.2.2.2.2.2.2.2))) (Tr.ret (false,r0.2.1,r0.2.2.1,r0.2.2.2.1,r0.2.2.2.2.1,r0.2.2.2.2.2.1,r0.2.2.2.2.2.2.1,r0.2.2.2.2.2.2.2.1,r0.2.2.2.2.2.2.2.2.1,r0.2.2.2.2.2.2.2.2.2.1,r0.2.2.2.2.2.2.2.2.2.2))).run (false,(0:Int),(0:Int),(0:Int),(0:Int),(0:Int),[],(0:Int),(0:Int),[],[]) fun r2=>Tr.ret (Sum.inl (r2.1,r2.2.1,r2.2.2.1,r2.2.2.2.1,r2.2.2.2.2.1,r2.2.2.2.2.2.1,r2.2.2.2.2.2.2.1,r2.2.2.2.2.2.2.2.1,r2.2.2.2.2.2.2.2.2.1,r2.2.2.2.2.2.2.2.2.2.1,r2.2.2.2.2.2.2.2.2.2.2))) (Tr.br (r0.2.1 == 0) (Tr.ret (Sum.inr (Sum.inl (r0.2.1,r0.2.2.1,r0.2.2.2.1,r0.2.2.2.2.1,r0.2.2.2.2.2.1,r0.2.2.2.2.2.2.1,r0.2.2.2.2.2.2.2.1,r0.2.2.2.2.2.2.2.2.1,r0.2.2.2.2.2.2.2.2.2.1,r0.2.2.2.2.2.2.2.2.2.2)))) (Tr.br (r0.2.1 == 1) (Tr.ret (Sum.inr (Sum.inl (r0.2.1,r0.2.2.1,r0.2.2.2.1,r0.2.2.2.2.1,r0.2.2.2.2.2.1,r0.2.2.2.2.2.2.1,r0.2.2.2.2.2.2.2.1,r0.2.2.2.2.2.2.2.2.1,r0.2.2.2.2.2.2.2.2.2.1,r0.2.2.2.2.2.2.2.2.2.2)))) (Tr.br (r0.2.1 == 2) (Tr.ret (Sum.inr (Sum.inr (Sum.inl (true,r0.2.1,r0.2.2.1,r0.2.2.2.1,r0.2.2.2.2.1,r0.2.2.2.2.2.1,r0.2.2.2.2.2.2.1,r0.2.2.2.2.2.2.2.1,r0.2.2.2.2.2.2.2.2.1,r0.2.2.2.2.2.2.2.2.2.1,r0.2.2.2.2.2.2.2.2.2.2))))) (Tr.ret (Sum.inr (Sum.inr (Sum.inr (r0.2.1,r0.2.2.1,r0.2.2.2.1,r0.2.2.2.2.1,r0.2.2.2.2.2.1,r0.2.2.2.2.2.2.1,r0.2.2.2.2.2.2.2.1,r0.2.2.2.2.2.2.2.2.1,r0.2.2.2.2.2.2.2.2.2.1,r0.2.2.2.2.2.2.2.2.2.2))))))))).run (Sum.inl (false,(0:Int),(0:Int),(0:Int),(0:Int),(0:Int),[],(0:Int),(0:Int),[],[])) fun r3=>Tr.cs _ _ r3 (false,(0:Int),(0:Int),(0:Int),(0:Int),(0:Int),[],(0:Int),(0:Int),[],[]) (Sum.inl ((0:Int),(0:Int),(0:Int),(0:Int),(0:Int),[],(0:Int),(0:Int),[],[])) (fun r4=>Tr.ret (Sum.inl (r4.1,r4.2.1,r4.2.2.1,r4.2.2.2.1,r4.2.2.2.2.1,r4.2.2.2.2.2.1,r4.2.2.2.2.2.2.1,r4.2.2.2.2.2.2.2.1,r4.2.2.2.2.2.2.2.2.1,r4.2.2.2.2.2.2.2.2.2.1,r4.2.2.2.2.2.2.2.2.2.2))) fun r5=>Tr.cs _ _ r5 ((0:Int),(0:Int),(0:Int),(0:Int),(0:Int),[],(0:Int),(0:Int),[],[]) (Sum.inl (false,(0:Int),(0:Int),(0:Int),(0:Int),(0:Int),[],(0:Int),(0:Int),[],[])) (fun r6=>Tr.bind _ (LQ.bare (r6.1,r6.2.1,r6.2.2.1,r6.2.2.2.1,r6.2.2.2.2.1,r6.2.2.2.2.2.1,(r6.2.2.2.2.2.2.1,r6.2.2.2.2.2.2.2.1,r6.2.2.2.2.2.2.2.2.1,r6.2.2.2.2.2.2.2.2.2,()),())) false fun r7=>Tr.ret (Sum.inr (Sum.inl (r7,r6.1,r6.2.1,r6.2.2.1,r6.2.2.2.1,r6.2.2.2.2.1,r6.2.2.2.2.2.1,r6.2.2.2.2.2.2.1,r6.2.2.2.2.2.2.2.1,r6.2.2.2.2.2.2.2.2.1,r6.2.2.2.2.2.2.2.2.2)))) fun r8=>Tr.cs _ _ r8 (false,(0:Int),(0:Int),(0:Int),(0:Int),(0:Int),[],(0:Int),(0:Int),[],[]) ((0:Int),(0:Int),(0:Int),(0:Int),(0:Int),[],(0:Int),(0:Int),[],[]) (fun r9=>Tr.ret (Sum.inr (Sum.inl (r9.1,r9.2.1,r9.2.2.1,r9.2.2.2.1,r9.2.2.2.2.1,r9.2.2.2.2.2.1,r9.2.2.2.2.2.2.1,r9.2.2.2.2.2.2.2.1,r9.2.2.2.2.2.2.2.2.1,r9.2.2.2.2.2.2.2.2.2.1,r9.2.2.2.2.2.2.2.2.2.2)))) fun r10=>Tr.ret (Sum.inr (Sum.inr (r10.1,r10.2.1,r10.2.2.1,r10.2.2.2.1,r10.2.2.2.2.1,r10.2.2.2.2.2.1,r10.2.2.2.2.2.2.1,r10.2.2.2.2.2.2.2.1,r10.2.2.2.2.2.2.2.2.1,r10.2.2.2.2.2.2.2.2.2)))).run (Sum.inl (false,(0:Int),(0:Int),(0:Int),(0:Int),(0:Int),[],(0:Int),(0:Int),[],[])) fun r11=>Tr.cs _ _ r11 (false,(0:Int),(0:Int),(0:Int),(0:Int),(0:Int),[],(0:Int),(0:Int),[],[]) (Sum.inl (false,(0:Int),(0:Int),(0:Int),(0:Int),(0:Int),[],(0:Int),(0:Int),[],[])) (fun r12=>Tr.ret (r12.1,r12.2.1,r12.2.2.1,r12.2.2.2.1,r12.2.2.2.2.1,r12.2.2.2.2.2.1,r12.2.2.2.2.2.2.1,r12.2.2.2.2.2.2.2.1,r12.2.2.2.2.2.2.2.2.1,r12.2.2.2.2.2.2.2.2.2.1,r12.2.2.2.2.2.2.2.2.2.2)) fun r13=>Tr.cs _ _ r13 (false,(0:Int),(0:Int),(0:Int),(0:Int),(0:Int),[],(0:Int),(0:Int),[],[]) ((0:Int),(0:Int),(0:Int),(0:Int),(0:Int),[],(0:Int),(0:Int),[],[]) (fun r14=>Tr.bind _ (Tr.br r14.1 (Tr.br (decide (r14.2.2.1>=0)) (Tr.br (decide (r14.2.2.1<=4)) (Tr.br (r14.2.2.2.2.1 == 0) (Tr.br (r14.2.2.2.2.2.1 == 0) (Tr.ret (Int.ofNat r14.2.2.2.2.2.2.1.length == 0,r14.2.1,r14.2.2.1,r14.2.2.2.1,r14.2.2.2.2.1,r14.2.2.2.2.2.1,r14.2.2.2.2.2.2.1,r14.2.2.2.2.2.2.2.1,r14.2.2.2.2.2.2.2.2.1,r14.2.2.2.2.2.2.2.2.2.1,r14.2.2.2.2.2.2.2.2.2.2)) (Tr.ret (false,r14.2.1,r14.2.2.1,r14.2.2.2.1,r14.2.2.2.2.1,r14.2.2.2.2.2.1,r14.2.2.2.2.2.2.1,r14.2.2.2.2.2.2.2.1,r14.2.2.2.2.2.2.2.2.1,r14.2.2.2.2.2.2.2.2.2.1,r14.2.2.2.2.2.2.2.2.2.2))) (Tr.ret (false,r14.2.1,r14.2.2.1,r14.2.2.2.1,r14.2.2.2.2.1,r14.2.2.2.2.2.1,r14.2.2.2.2.2.2.1,r14.2.2.2.2.2.2.2.1,r14.2.2.2.2.2.2.2.2.1,r14.2.2.2.2.2.2.2.2.2.1,r14.2.2.2.2.2.2.2.2.2.2))) (Tr.ret (false,r14.2.1,r14.2.2.1,r14.2.2.2.1,r14.2.2.2.2.1,r14.2.2.2.2.2.1,r14.2.2.2.2.2.2.1,r14.2.2.2.2.2.2.2.1,r14.2.2.2.2.2.2.2.2.1,r14.2.2.2.2.2.2.2.2.2.1,r14.2.2.2.2.2.2.2.2.2.2))) (Tr.ret (false,r14.2.1,r14.2.2.1,r14.2.2.2.1,r14.2.2.2.2.1,r14.2.2.2.2.2.1,r14.2.2.2.2.2.2.1,r14.2.2.2.2.2.2.2.1,r14.2.2.2.2.2.2.2.2.1,r14.2.2.2.2.2.2.2.2.2.1,r14.2.2.2.2.2.2.2.2.2.2))) (Tr.ret (false,r14.2.1,r14.2.2.1,r14.2.2.2.1,r14.2.2.2.2.1,r14.2.2.2.2.2.1,r14.2.2.2.2.2.2.1,r14.2.2.2.2.2.2.2.1,r14.2.2.2.2.2.2.2.2.1,r14.2.2.2.2.2.2.2.2.2.1,r14.2.2.2.2.2.2.2.2.2.2))).run (false,(0:Int),(0:Int),(0:Int),(0:Int),(0:Int),[],(0:Int),(0:Int),[],[]) fun r15=>Tr.ret (r15.1,r15.2.1,r15.2.2.1,r15.2.2.2.1,r15.2.2.2.2.1,r15.2.2.2.2.2.1,r15.2.2.2.2.2.2.1,r15.2.2.2.2.2.2.2.1,r15.2.2.2.2.2.2.2.2.1,r15.2.2.2.2.2.2.2.2.2.1,r15.2.2.2.2.2.2.2.2.2.2)) fun r16=>Tr.ret (false,r16.1,r16.2.1,r16.2.2.1,r16.2.2.2.1,r16.2.2.2.2.1,r16.2.2.2.2.2.1,r16.2.2.2.2.2.2.1,r16.2.2.2.2.2.2.2.1,r16.2.2.2.2.2.2.2.2.1,r16.2.2.2.2.2.2.2.2.2)).run (false,(0:Int),(0:Int),(0:Int),(0:Int),(0:Int),[],(0:Int),(0:Int),[],[]) fun r17=>Tr.bind _ (Tr.br (!r17.1) (Tr.ret true) (Tr.br (decide (r17.2.2.1>block)) (Tr.ret true) (Tr.br (decide (r17.2.1>=2)) (Tr.bind _ (LQ.rCheck (r17.2.2.2.2.2.2.2.1,r17.2.2.2.2.2.2.2.2.1,r17.2.2.2.2.2.2.2.2.2.1,r17.2.2.2.2.2.2.2.2.2.2,()) block r17.2.2.1) (0:Int) fun r18=>Tr.ret (r18 != 0)) (Tr.ret false)))).run false fun r19=>Tr.br r19 (Tr.ret (60:Int)) (Tr.ret (0:Int)))
def Check (s:QS) (block:Int) (width:Int):Option (Int):=(Check.t s block width).run
end LQ
def TD.Check:Go.LM.Told:=⟨[(.dat tS),(.dat tI),(.dat tI)],[],(.dat tI),[],fun d=>LQ.Check d.1 d.2.1 d.2.2⟩
theorem TD.Check_eq:(fun d=>tFn (mkCxD Tryz.prog [2097220,2097249,2097248,2097181] [(70,[TD.chk1]),(39,[TD.ConF]),(71,[TD.bare]),(72,[TD.rCheck])]) Tryz.f36 (.t .n (.t (.t (.k [1,3] [1,3,32] [] [] .n .n) (.k [1,3] [1,3] [] [6] .n .n)) (.t .n (.t (.t .n (.k [1,3] [1,3,7] [] [] (.t (.k [1,3] [1,3] [(0,[1,3,7])] [] (.t (.k [1,3] [1,3,7] [(5,[1,3]),(0,[1,3,7])] [] (.t (.k [1,3] [1,3] [(4,[1,3,7]),(5,[1,3]),(0,[1,3,7])] [] (.k [1,3] [1,3] [(3,[1,3]),(4,[1,3,7]),(5,[1,3]),(0,[1,3,7])] [] (.t (.k [1,3,7] [1,3] [(2,[1,3]),(3,[1,3]),(4,[1,3,7]),(5,[1,3])] [] (.t (.t (.t .n (.k [1,3,7,34] [1,3,7,34] [(1,[1,3])] [] .n .n)) (.t (.t .n (.k [1,3,7,34] [1,3,7,34] [(2,[1,3])] [] .n .n)) (.t (.t .n (.k [1,3,7,34] [1,3,7,34] [(3,[1,3])] [] .n .n)) (.t .n (.k [1,3,7] [1,3] [(4,[1,3,7])] [] .n .n))))) .n) .n) (.t (.k [1,3] [1,3,7] [] [] .n .n) .n)) .n) .n) .n) .n) (.t (.k [1,3] [1,3,7] [] [] .n .n) .n)) .n) .n) .n)) (.t (.t (.k [] [136] [] [] .n .n) (.k [] [] [] [6] .n .n)) .n))))) TD.Check d)=(fun d=>LQ.Check.t d.1 d.2.1 d.2.2):=by kernel_rfl
namespace LQ
def goes.l0 (width:Int) (l:List Int) (t14:Int) (blk0_0:Int) (blk0_1:Int) (blk0_2:Int) (blk0_3:Int) (blk0_4:Int) (blk0_5:List Int) (blk0_6:Int) (blk0_7:Int) (blk0_8:List Int) (blk0_9:List Int):Tr (Int×QT⊕Bool⊕QT):=
 Tr.br (decide (t14<Int.ofNat l.length)) (Tr.need (0<=t14/\t14<Int.ofNat l.length) (Tr.bind _ (Tr.bind _ (LQ.sfits (l.getD t14.toNat (0:Int)) width) false fun r0=>Tr.br (!r0) (Tr.ret (true,blk0_0,blk0_1,blk0_2,blk0_3,blk0_4,blk0_5,blk0_6,blk0_7,blk0_8,blk0_9)) (Tr.br (blk0_0 == 0) (Tr.need ((0:Int)<=0/\0<Int.ofNat l.length) (Tr.ret (l.getD t14.toNat (0:Int) != l.getD 0 (0:Int),blk0_0,blk0_1,blk0_2,blk0_3,blk0_4,blk0_5,blk0_6,blk0_7,blk0_8,blk0_9))) (Tr.ret (false,blk0_0,blk0_1,blk0_2,blk0_3,blk0_4,blk0_5,blk0_6,blk0_7,blk0_8,blk0_9)))).run (false,(0:Int),(0:Int),(0:Int),(0:Int),(0:Int),[],(0:Int),(0:Int),[],[]) fun r1=>Tr.br r1.1 (Tr.ret (Sum.inr (Sum.inl false))) (Tr.ret (Sum.inl (w64 (t14+1),r1.2.1,r1.2.2.1,r1.2.2.2.1,r1.2.2.2.2.1,r1.2.2.2.2.2.1,r1.2.2.2.2.2.2.1,r1.2.2.2.2.2.2.2.1,r1.2.2.2.2.2.2.2.2.1,r1.2.2.2.2.2.2.2.2.2.1,r1.2.2.2.2.2.2.2.2.2.2))))) (Tr.ret (Sum.inr (Sum.inr (blk0_0,blk0_1,blk0_2,blk0_3,blk0_4,blk0_5,blk0_6,blk0_7,blk0_8,blk0_9))))
def goes.t (s:QS) (width:Int) (l:List Int):Tr (List Int×Bool):=
 Tr.bind _ (loopO (fun (d:Int×QT)=>(goes.l0 width l d.1 d.2.1 d.2.2.1 d.2.2.2.1 d.2.2.2.2.1 d.2.2.2.2.2.1 d.2.2.2.2.2.2.1 d.2.2.2.2.2.2.2.1 d.2.2.2.2.2.2.2.2.1 d.2.2.2.2.2.2.2.2.2.1 d.2.2.2.2.2.2.2.2.2.2).run) ((0:Int),s.1,s.2.1,s.2.2.1,s.2.2.2.1,s.2.2.2.2.1,s.2.2.2.2.2.1,s.2.2.2.2.2.2.1.1,s.2.2.2.2.2.2.1.2.1,s.2.2.2.2.2.2.1.2.2.1,s.2.2.2.2.2.2.1.2.2.2.1)) (Sum.inl false) fun r2=>Tr.cs _ _ r2 false ((0:Int),(0:Int),(0:Int),(0:Int),(0:Int),[],(0:Int),(0:Int),[],[]) (fun r3=>Tr.ret ([],r3)) fun r4=>Tr.bind _ (LQ.Shift l r4.2.2.1) ([],(0:Int)) fun r5=>Tr.ret (r5.1,r5.2 == 0)
def goes (s:QS) (width:Int) (l:List Int):Option (List Int×Bool):=(goes.t s width l).run
end LQ
def TD.goes:Go.LM.Told:=⟨[(.dat tS),(.dat tI),(.dat (tI.sl))],[],(.tup [(.dat (tI.sl)),(.dat (Ty.bool))]),[],fun d=>LQ.goes d.1 d.2.1 d.2.2⟩
theorem TD.goes_eq:(fun d=>tFn (mkCxD Tryz.prog [2097220,2097249,2097248,2097181] [(64,[TD.sfits]),(75,[TD.Shift])]) Tryz.f43 (.t .n (.t (.t .n (.k [2,3] [2,3] [] [6,7] (.k [1,2,3,12,13] [1,2,3,12,13,14] [(0,[2,3])] [6,7] (.t .n (.t (.k [1,2,3,12,13,14] [1,2,3,12,13,14] [(0,[2,3])] [] .n .n) (.t (.k [1,2,3,12,13,14] [1,2,3,12,13,14] [] [6,7] (.t .n (.t (.k [1,2,3,12,13,14] [1,2,3,12,13,14,33] [] [] .n .n) (.k [1,2,3,12,13,14] [1,2,3,12,13,14] [] [6,7] .n .n))) .n) .n))) .n) .n)) .n)) TD.goes d)=(fun d=>LQ.goes.t d.1 d.2.1 d.2.2):=by kernel_rfl
end
end
section
set_option maxRecDepth 100000
open Go.LM
noncomputable section
namespace LQ
def CloneN.t (s_0:Bool) (s_1:List Int):Go.LM.Tr (List Int):=
 Tr.br s_0 (Tr.ret []) (Tr.need (((0:Nat)+s_1.length)*(8:Nat)<=(140737488355328:Nat)) (Tr.ret ([]++s_1)))
def CloneN (s_0:Bool) (s_1:List Int):Option (List Int):=(CloneN.t s_0 s_1).run
end LQ
def TD.CloneN:Go.LM.Told:=⟨[.nz (.int .i64)],[],(.dat ((Ty.int IntKind.i64).sl)),[],fun d=>LQ.CloneN d.1 d.2⟩
theorem TD.CloneN_eq:(fun d=>Go.LM.tFn (Go.LM.mkCxD Tryz.prog [] []) Tryz.f113 (.t .n (.t (.t .n (.k [0] [0] [] [2] .n .n)) .n)) TD.CloneN d)=(fun d=>LQ.CloneN.t d.1 d.2):=by kernel_rfl
namespace LQ
def CloneW.t (s_0:Bool) (s_1:List Int):Go.LM.Tr (List Int):=
 Tr.br s_0 (Tr.ret []) (Tr.need (((0:Nat)+s_1.length)*(8:Nat)<=(140737488355328:Nat)) (Tr.ret ([]++s_1)))
def CloneW (s_0:Bool) (s_1:List Int):Option (List Int):=(CloneW.t s_0 s_1).run
end LQ
def TD.CloneW:Go.LM.Told:=⟨[.nz (.int .i64)],[],.full 0,[.row (.int .i64) false],fun d=>LQ.CloneW d.1 d.2⟩
theorem TD.CloneW_eq:(fun d=>Go.LM.tFn (Go.LM.mkCxD Tryz.prog [] []) Tryz.f113 (.t .n (.t (.t .n (.k [0] [0] [] [2] .n .n)) .n)) TD.CloneW d)=(fun d=>LQ.CloneW.t d.1 d.2):=by kernel_rfl
end
end
section
set_option maxRecDepth 100000
open Go.LM
noncomputable section
theorem TD.CloneN_ok:ToldSound Tryz.prog 113 TD.CloneN:=zY fit zX Tryz.func113 rfl TD.CloneN_eq (fun d=>rfl)
theorem TD.CloneW_ok:ToldSound Tryz.prog 113 TD.CloneW:=zY fit zX Tryz.func113 rfl TD.CloneW_eq (fun d=>rfl)
def LQ.CloneI (s:List Int):Option (List Int):=if s.length*8<=140737488355328 then some s else none
def TD.CloneI:Go.LM.Told:=⟨[(.dat ((Ty.int IntKind.i64).sl))],[],(.dat ((Ty.int IntKind.i64).sl)),[],fun d=>LQ.CloneI d⟩
theorem clone_i (b:Bool) (xs:List Int) (h:b=true->xs=[]):LQ.CloneN b xs=LQ.CloneI xs:=by
 unfold LQ.CloneN LQ.CloneN.t LQ.CloneI
 cases b with
 |true=>rw [h rfl];rfl
 |false=>simp only [Tr.run,zc,Nat.zero_add,List.nil_append]
theorem TD.CloneI_ok:ToldSound Tryz.prog 113 TD.CloneI:=told_nz TD.CloneN_ok clone_i
def TD.CloneR:Go.LM.Told:=⟨[(.dat ((Ty.int IntKind.i64).sl))],[],.full 0,[.row (.int .i64) false],fun d=>LQ.CloneI d⟩
theorem clone_w (b:Bool) (xs:List Int) (h:b=true->xs=[]):LQ.CloneW b xs=LQ.CloneI xs:=by
 unfold LQ.CloneW LQ.CloneW.t LQ.CloneI
 cases b with
 |true=>rw [h rfl];rfl
 |false=>simp only [Tr.run,zc,Nat.zero_add,List.nil_append]
theorem TD.CloneR_ok:ToldSound Tryz.prog 113 TD.CloneR:=told_nz TD.CloneW_ok clone_w
end
end
section
set_option maxRecDepth 100000
open Go.LM
noncomputable section
namespace LQ
def wBytes.t (b0_0:Int) (row1:List UInt8):Tr (List UInt8×Int×List UInt8):=
 Tr.br false (Tr.ret ([],b0_0,row1)) (Tr.ret (row1,b0_0,row1))
def wBytes (b0_0:Int) (row1:List UInt8):Option (List UInt8×Int×List UInt8):=(wBytes.t b0_0 row1).run
end LQ
def TD.wBytes:Go.LM.Told:=⟨[.ptr 0 0 []],[.vars [.dat tI,.full 1],.row (.int .u8) false],(.dat (Ty.str)),[.vars [.dat tI,.full 1],.row (.int .u8) false],fun d=>LQ.wBytes d.1 d.2⟩
theorem TD.wBytes_eq:(fun d=>tFn (mkCxD Tryz.prog [2097220,2097249,2097248,2097181,2097266] []) Tryz.f18 (.t .n (.t (.t .n (.k [0] [0] [] [2] .n .n)) .n)) TD.wBytes d)=(fun d=>LQ.wBytes.t d.1 d.2):=by kernel_rfl
namespace LQ
def rOf.t (s:List UInt8):Tr (Int×List UInt8):=
 Tr.ret ((0:Int),s)
def rOf (s:List UInt8):Option (Int×List UInt8):=(rOf.t s).run
end LQ
def TD.rOf:Go.LM.Told:=⟨[(.dat (Ty.str))],[],.ptr 0 0 [],[.vars [.dat tI,.dat .str]],fun d=>LQ.rOf d⟩
theorem TD.rOf_eq:(fun d=>tFn (mkCxD Tryz.prog [2097220,2097249,2097248,2097181,2097266] []) Tryz.f25 .n TD.rOf d)=(fun d=>LQ.rOf.t d):=by kernel_rfl
namespace LQ
def atR.t (b0_0:Int) (b0_1:List UInt8):Tr (Int×Int×List UInt8):=
 Tr.ret (b0_0,b0_0,b0_1)
def atR (b0_0:Int) (b0_1:List UInt8):Option (Int×Int×List UInt8):=(atR.t b0_0 b0_1).run
end LQ
def TD.atR:Go.LM.Told:=⟨[.ptr 0 0 []],[.vars [.dat tI,.dat .str]],(.dat tI),[.vars [.dat tI,.dat .str]],fun d=>LQ.atR d.1 d.2⟩
theorem TD.atR_eq:(fun d=>tFn (mkCxD Tryz.prog [2097220,2097249,2097248,2097181,2097266] []) Tryz.f68 .n TD.atR d)=(fun d=>LQ.atR.t d.1 d.2):=by kernel_rfl
namespace LQ
def onR.t (n:Int) (b0_0:Int) (b0_1:List UInt8):Tr (Int×List UInt8):=
 Tr.ret (w64 (b0_0+n),b0_1)
def onR (n:Int) (b0_0:Int) (b0_1:List UInt8):Option (Int×List UInt8):=(onR.t n b0_0 b0_1).run
end LQ
def TD.onR:Go.LM.Told:=⟨[.ptr 0 0 [],.dat tI],[.vars [.dat tI,.dat .str]],(.tup []),[.vars [.dat tI,.dat .str]],fun d=>LQ.onR d.1 d.2.1 d.2.2⟩
theorem TD.onR_eq:(fun d=>tFn (mkCxD Tryz.prog [2097220,2097249,2097248,2097181,2097266] []) Tryz.f98 .n TD.onR d)=(fun d=>LQ.onR.t d.1 d.2.1 d.2.2):=by kernel_rfl
namespace LQ
def peek.t (at_:Int) (b0_0:Int) (b0_1:List UInt8):Tr (Int×Int×List UInt8):=
 Tr.need (0<=w64 (at_.tdiv (8:Int))/\w64 (at_.tdiv (8:Int))<Int.ofNat b0_1.length) (Tr.need (0<=w64 (7 - at_.tmod (8:Int))) (Tr.ret (IntKind.u64.wrap (bitsI BinOp.and IntKind.u64 (IntKind.u64.wrap (Int.ofNat (UInt8.ofNat (Int.ofNat (b0_1.getD (w64 (at_.tdiv (8:Int))).toNat (0:UInt8)).toNat / p2 (w64 (7 - at_.tmod (8:Int))) 8 % 256).toNat).toNat)) (1:Int)),b0_0,b0_1)))
def peek (at_:Int) (b0_0:Int) (b0_1:List UInt8):Option (Int×Int×List UInt8):=(peek.t at_ b0_0 b0_1).run
end LQ
def TD.peek:Go.LM.Told:=⟨[.ptr 0 0 [],.dat tI],[.vars [.dat tI,.dat .str]],(.dat (Ty.int IntKind.u64)),[.vars [.dat tI,.dat .str]],fun d=>LQ.peek d.1 d.2.1 d.2.2⟩
theorem TD.peek_eq:(fun d=>tFn (mkCxD Tryz.prog [2097220,2097249,2097248,2097181,2097266] []) Tryz.f97 .n TD.peek d)=(fun d=>LQ.peek.t d.1 d.2.1 d.2.2):=by kernel_rfl
namespace LQ
def Left.t (b0_0:Int) (b0_1:List UInt8):Tr (Int×Int×List UInt8):=
 Tr.br false (Tr.ret ((0:Int),b0_0,b0_1)) (Tr.bind _ (LQ.atR b0_0 b0_1) ((0:Int),(0:Int),[]) fun r0=>Tr.need (r0.2.1=b0_0/\r0.2.2=b0_1/\True) (Tr.ret (w64 (w64 (8*Int.ofNat b0_1.length) - r0.1),b0_0,b0_1)))
def Left (b0_0:Int) (b0_1:List UInt8):Option (Int×Int×List UInt8):=(Left.t b0_0 b0_1).run
end LQ
def TD.Left:Go.LM.Told:=⟨[.ptr 0 0 []],[.vars [.dat tI,.dat .str]],(.dat tI),[.vars [.dat tI,.dat .str]],fun d=>LQ.Left d.1 d.2⟩
theorem TD.Left_eq:(fun d=>tFn (mkCxD Tryz.prog [2097220,2097249,2097248,2097181,2097266] [(68,[TD.at1,TD.atR])]) Tryz.f96 (.t .n (.t (.t .n (.k [0] [0] [] [2] .n .n)) .n)) TD.Left d)=(fun d=>LQ.Left.t d.1 d.2):=by kernel_rfl
namespace LQ
def AtR.t (b0_0:Int) (b0_1:List UInt8):Tr (Int×Int×List UInt8):=
 Tr.br false (Tr.ret ((0:Int),b0_0,b0_1)) (Tr.bind _ (LQ.atR b0_0 b0_1) ((0:Int),(0:Int),[]) fun r0=>Tr.need (r0.2.1=b0_0/\r0.2.2=b0_1/\True) (Tr.ret (r0.1,b0_0,b0_1)))
def AtR (b0_0:Int) (b0_1:List UInt8):Option (Int×Int×List UInt8):=(AtR.t b0_0 b0_1).run
end LQ
def TD.AtR:Go.LM.Told:=⟨[.ptr 0 0 []],[.vars [.dat tI,.dat .str]],(.dat tI),[.vars [.dat tI,.dat .str]],fun d=>LQ.AtR d.1 d.2⟩
theorem TD.AtR_eq:(fun d=>tFn (mkCxD Tryz.prog [2097220,2097249,2097248,2097181,2097266] [(68,[TD.at1,TD.atR])]) Tryz.f29 (.t .n (.t (.t .n (.k [0] [0] [] [2] .n .n)) .n)) TD.AtR d)=(fun d=>LQ.AtR.t d.1 d.2):=by kernel_rfl
namespace LQ
def Get.l0 (width:Int) (n:Int) (t24:Int) (blk0_0:Int) (blk0_1:List UInt8):Tr (Int×Int×Int×List UInt8⊕Int×Int×List UInt8):=
 Tr.br (decide (t24<width)) (Tr.bind _ (LQ.atR blk0_0 blk0_1) ((0:Int),(0:Int),[]) fun r2=>Tr.need (r2.2.1=blk0_0/\r2.2.2=blk0_1/\True) (Tr.bind _ (LQ.peek (w64 (r2.1+t24)) blk0_0 blk0_1) ((0:Int),(0:Int),[]) fun r3=>Tr.need (r3.2.1=blk0_0/\r3.2.2=blk0_1/\True) (Tr.ret (Sum.inl (IntKind.u64.wrap (bitsI BinOp.or IntKind.u64 (IntKind.u64.wrap (n*2)) r3.1),w64 (t24+1),blk0_0,blk0_1))))) (Tr.ret (Sum.inr (n,blk0_0,blk0_1)))
def Get.t (width:Int) (b0_0:Int) (b0_1:List UInt8):Tr ((Int×Int)×Int×List UInt8):=
 Tr.br false (Tr.ret (((0:Int),(1:Int)),b0_0,b0_1)) (Tr.bind _ (Tr.br (decide (width<0)) (Tr.ret (true,b0_0,b0_1)) (Tr.ret (decide (width>64),b0_0,b0_1))).run (false,(0:Int),[]) fun r0=>Tr.br r0.1 (Tr.ret (((0:Int),(11:Int)),r0.2.1,r0.2.2)) (Tr.bind _ (LQ.Left r0.2.1 r0.2.2) ((0:Int),(0:Int),[]) fun r1=>Tr.need (r1.2.1=r0.2.1/\r1.2.2=r0.2.2/\True) (Tr.br (decide (r1.1<width)) (Tr.ret (((0:Int),(10:Int)),r0.2.1,r0.2.2)) (Tr.bind _ (loopO (fun (d:Int×Int×Int×List UInt8)=>(Get.l0 width d.1 d.2.1 d.2.2.1 d.2.2.2).run) ((0:Int),(0:Int),r0.2.1,r0.2.2)) ((0:Int),(0:Int),[]) fun r4=>Tr.bind _ (LQ.onR width r4.2.1 r4.2.2) ((0:Int),[]) fun r5=>Tr.ret ((r4.1,(0:Int)),r5.1,r5.2)))))
def Get (width:Int) (b0_0:Int) (b0_1:List UInt8):Option ((Int×Int)×Int×List UInt8):=(Get.t width b0_0 b0_1).run
end LQ
def TD.Get:Go.LM.Told:=⟨[.ptr 0 0 [],.dat tI],[.vars [.dat tI,.dat .str]],(.tup [(.dat (Ty.int IntKind.u64)),(.dat tI)]),[.vars [.dat tI,.dat .str]],fun d=>LQ.Get d.1 d.2.1 d.2.2⟩
theorem TD.Get_eq:(fun d=>tFn (mkCxD Tryz.prog [2097220,2097249,2097248,2097181,2097266] [(96,[TD.Left]),(68,[TD.at1,TD.atR]),(97,[TD.peek]),(98,[TD.on1,TD.onR])]) Tryz.f67 (.t .n (.t (.k [0,1] [0,1] [] [4,5] (.t .n (.k [0,1] [0,1] [] [4,5] .n (.t (.k [0,1] [0,1,11] [] [] .n .n) (.k [0,1] [0,1] [] [4,5] .n (.t .n (.k [0,1] [0,1] [] [4,5] .n .n)))))) .n) (.t .n (.t (.t .n (.k [0,1] [0,1,6] [] [] (.k [0,1,23] [0,1,6,23,24] [(1,[0,1,6])] [] (.t .n (.t (.k [0,1,6,23,24] [0,1,6,23,24] [(1,[0,1,6])] [] .n .n) (.t (.k [0,1,23,24] [0,1,6,23,24] [] [] .n .n) .n))) .n) .n)) .n)))) TD.Get d)=(fun d=>LQ.Get.t d.1 d.2.1 d.2.2):=by kernel_rfl
namespace LQ
def SignedR.t (width:Int) (b0_0:Int) (b0_1:List UInt8):Tr ((Int×Int)×Int×List UInt8):=
 Tr.bind _ (Tr.br true (Tr.ret (decide (width<1),b0_0,b0_1)) (Tr.ret (false,b0_0,b0_1))).run (false,(0:Int),[]) fun r0=>Tr.br r0.1 (Tr.ret (((0:Int),(11:Int)),r0.2.1,r0.2.2)) (Tr.bind _ (LQ.Get width r0.2.1 r0.2.2) (((0:Int),(0:Int)),(0:Int),[]) fun r1=>Tr.br (r1.1.2 != 0) (Tr.ret (((0:Int),r1.1.2),r1.2.1,r1.2.2)) (Tr.need (0<=w64 (64 - width)) (Tr.need (0<=w64 (64 - width)) (Tr.ret ((w64 (IntKind.u64.wrap (r1.1.1*p2 (w64 (64 - width)) 64)) / p2 (w64 (64 - width)) 64,(0:Int)),r1.2.1,r1.2.2)))))
def SignedR (width:Int) (b0_0:Int) (b0_1:List UInt8):Option ((Int×Int)×Int×List UInt8):=(SignedR.t width b0_0 b0_1).run
end LQ
def TD.SignedR:Go.LM.Told:=⟨[.ptr 0 0 [],.dat tI],[.vars [.dat tI,.dat .str]],(.tup [(.dat tI),(.dat tI)]),[.vars [.dat tI,.dat .str]],fun d=>LQ.SignedR d.1 d.2.1 d.2.2⟩
theorem TD.SignedR_eq:(fun d=>tFn (mkCxD Tryz.prog [2097220,2097249,2097248,2097181,2097266] [(67,[TD.Get])]) Tryz.f109 (.t .n (.t (.t (.k [0,1] [0,1,13] [] [] .n .n) (.k [0,1] [0,1] [] [4,5] .n .n)) (.t .n (.t (.t .n (.k [1,6] [1,6] [] [4,5] .n .n)) .n)))) TD.SignedR d)=(fun d=>LQ.SignedR.t d.1 d.2.1 d.2.2):=by kernel_rfl
namespace LQ
def UnaryR.l0 (r0:Int×Int×List UInt8) (n:Int) (blk0_0:Int) (blk0_1:List UInt8):Tr (Int×Int×List UInt8⊕Int×Int×Int×List UInt8⊕Int×Int×List UInt8):=
 Tr.bind _ (Tr.br (decide (n<r0.1)) (Tr.bind _ (LQ.atR blk0_0 blk0_1) ((0:Int),(0:Int),[]) fun r1=>Tr.need (r1.2.1=blk0_0/\r1.2.2=blk0_1/\True) (Tr.bind _ (LQ.peek (w64 (r1.1+n)) blk0_0 blk0_1) ((0:Int),(0:Int),[]) fun r2=>Tr.need (r2.2.1=blk0_0/\r2.2.2=blk0_1/\True) (Tr.ret (r2.1 == 0,blk0_0,blk0_1)))) (Tr.ret (false,blk0_0,blk0_1))).run (false,(0:Int),[]) fun r3=>Tr.br r3.1 (Tr.br (decide (w64 (n+1)>16777216)) (Tr.ret (Sum.inr (Sum.inl ((0:Int),(11:Int),r3.2.1,r3.2.2)))) (Tr.ret (Sum.inl (w64 (n+1),r3.2.1,r3.2.2)))) (Tr.ret (Sum.inr (Sum.inr (n,r3.2.1,r3.2.2))))
def UnaryR.t (b0_0:Int) (b0_1:List UInt8):Tr ((Int×Int)×Int×List UInt8):=
 Tr.br false (Tr.ret (((0:Int),(1:Int)),b0_0,b0_1)) (Tr.bind _ (LQ.Left b0_0 b0_1) ((0:Int),(0:Int),[]) fun r0=>Tr.need (r0.2.1=b0_0/\r0.2.2=b0_1/\True) (Tr.bind _ (loopO (fun (d:Int×Int×List UInt8)=>(UnaryR.l0 r0 d.1 d.2.1 d.2.2).run) ((0:Int),b0_0,b0_1)) (Sum.inl ((0:Int),(0:Int),(0:Int),[])) fun r4=>Tr.cs _ _ r4 ((0:Int),(0:Int),(0:Int),[]) ((0:Int),(0:Int),[]) (fun r5=>Tr.ret ((r5.1,r5.2.1),r5.2.2.1,r5.2.2.2)) fun r6=>Tr.br (r6.1 == r0.1) (Tr.ret (((0:Int),(10:Int)),r6.2.1,r6.2.2)) (Tr.bind _ (LQ.onR (w64 (r6.1+1)) r6.2.1 r6.2.2) ((0:Int),[]) fun r7=>Tr.ret ((r6.1,(0:Int)),r7.1,r7.2))))
def UnaryR (b0_0:Int) (b0_1:List UInt8):Option ((Int×Int)×Int×List UInt8):=(UnaryR.t b0_0 b0_1).run
end LQ
def TD.UnaryR:Go.LM.Told:=⟨[.ptr 0 0 []],[.vars [.dat tI,.dat .str]],(.tup [(.dat tI),(.dat tI)]),[.vars [.dat tI,.dat .str]],fun d=>LQ.UnaryR d.1 d.2⟩
theorem TD.UnaryR_eq:(fun d=>tFn (mkCxD Tryz.prog [2097220,2097249,2097248,2097181,2097266] [(96,[TD.Left]),(68,[TD.at1,TD.atR]),(97,[TD.peek]),(98,[TD.on1,TD.onR])]) Tryz.f89 (.t .n (.t (.t .n (.k [0] [0] [] [2,3] .n .n)) (.t .n (.t (.k [0,5] [0,4,5] [] [2,3] (.k [0,5] [0,4,5] [(0,[0,4,5])] [2,3] (.t (.t (.k [0,4,5] [0,4,5,23] [] [] .n .n) (.k [0,4,5] [0,4,5] [(0,[0,4,5])] [] .n .n)) (.k [0,5] [0,4,5] [] [2,3] (.t .n (.t .n (.k [0,4,5] [0,4,5] [] [2,3] .n .n))) .n)) .n) .n) (.t (.t .n (.k [0,4] [0,4] [] [2,3] .n .n)) .n))))) TD.UnaryR d)=(fun d=>LQ.UnaryR.t d.1 d.2):=by kernel_rfl
namespace LQ
def numbers.l0 (n:Int×Int) (t12:Int) (blk0_0:Int×List UInt8) (blk0_1:List Int):Tr (Int×(Int×List UInt8)×List Int⊕Bool×Int×List UInt8⊕(Int×List UInt8)×List Int):=
 Tr.br (decide (t12<n.1)) (Tr.bind _ (LQ.SignedR n.2 blk0_0.1 blk0_0.2) (((0:Int),(0:Int)),(0:Int),[]) fun r0=>Tr.br (r0.1.2 != 0) (Tr.ret (Sum.inr (Sum.inl (false,r0.2.1,r0.2.2)))) (Tr.need ((blk0_1.length+((List.replicate 1 (0:Int)).set 0 r0.1.1).length)*8<=140737488355328) (Tr.ret (Sum.inl (w64 (t12+1),(r0.2.1,r0.2.2),blk0_1++(List.replicate 1 (0:Int)).set 0 r0.1.1))))) (Tr.ret (Sum.inr (Sum.inr ((blk0_0.1,blk0_0.2),blk0_1))))
def numbers.t (n:Int×Int) (width:Int) (b0_0:List UInt8):Tr ((List Int×Bool)×Int×List UInt8):=
 Tr.bind _ (loopO (fun (d:Int×(Int×List UInt8)×List Int)=>(numbers.l0 n d.1 d.2.1 d.2.2).run) ((0:Int),(width,b0_0),[])) (Sum.inl (false,(0:Int),[])) fun r1=>Tr.cs _ _ r1 (false,(0:Int),[]) (((0:Int),[]),[]) (fun r2=>Tr.ret (([],r2.1),r2.2.1,r2.2.2)) fun r3=>Tr.ret ((r3.2,true),r3.1.1,r3.1.2)
def numbers (n:Int×Int) (width:Int) (b0_0:List UInt8):Option ((List Int×Bool)×Int×List UInt8):=(numbers.t n width b0_0).run
end LQ
def TD.numbers:Go.LM.Told:=⟨[.ptr 0 0 [],.dat tI,.dat tI],[.vars [.dat tI,.dat .str]],(.tup [(.dat (tI.sl)),(.dat (Ty.bool))]),[.vars [.dat tI,.dat .str]],fun d=>LQ.numbers d.1 d.2.1 d.2.2⟩
theorem TD.numbers_eq:(fun d=>tFn (mkCxD Tryz.prog [2097220,2097249,2097248,2097181,2097266] [(109,[TD.SignedR])]) Tryz.f90 (.t .n (.t .n (.t (.t .n (.k [] [8] [] [6,7] (.k [0,2,11] [0,2,8,11,12] [(0,[8])] [6,7] (.t .n (.t (.k [0,2,8,11,12] [0,2,8,11,12] [(0,[8])] [] .n .n) (.t (.k [0,2,11,12] [0,2,8,11,12] [] [6,7] (.t .n (.t (.t .n (.k [0,2,8,9,11,12] [0,2,8,9,11,12] [] [6,7] .n .n)) .n)) .n) .n))) .n) .n)) .n))) TD.numbers d)=(fun d=>LQ.numbers.t d.1 d.2.1 d.2.2):=by kernel_rfl
namespace LQ
def head.t (block:Int×Int) (width:Int) (b0_0:List UInt8):Tr (((QS)×Bool)×Int×List UInt8):=
 Tr.bind _ (LQ.Get (8:Int) width b0_0) (((0:Int),(0:Int)),(0:Int),[]) fun r0=>Tr.br (r0.1.2 != 0) (Tr.ret ((((0:Int),(0:Int),(0:Int),(0:Int),(0:Int),[],((0:Int),(0:Int),[],[],()),()),false),r0.2.1,r0.2.2)) (Tr.bind _ (Tr.br (decide (w64 (r0.1.1 / 2)<2)) (Tr.ret (Sum.inl ((r0.2.1,r0.2.2),((0:Int),(0:Int),(0:Int),(0:Int),(0:Int),(0:Int),(0:Int)),w64 (r0.1.1 / 2),(0:Int),(0:Int),(0:Int),(0:Int),(0:Int),(0:Int)))) (Tr.bind _ (Tr.br (decide (w64 (r0.1.1 / 2)>=8)) (Tr.ret (decide (w64 (r0.1.1 / 2)<=12),(r0.2.1,r0.2.2),((0:Int),(0:Int),(0:Int),(0:Int),(0:Int),(0:Int),(0:Int)),(0:Int),(0:Int),(0:Int),(0:Int),(0:Int),(0:Int),(0:Int))) (Tr.ret (false,(r0.2.1,r0.2.2),((0:Int),(0:Int),(0:Int),(0:Int),(0:Int),(0:Int),(0:Int)),(0:Int),(0:Int),(0:Int),(0:Int),(0:Int),(0:Int),(0:Int)))).run (false,((0:Int),[]),((0:Int),(0:Int),(0:Int),(0:Int),(0:Int),(0:Int),(0:Int)),(0:Int),(0:Int),(0:Int),(0:Int),(0:Int),(0:Int),(0:Int)) fun r1=>Tr.bind _ (Tr.br r1.1 (Tr.ret (Sum.inl ((r1.2.1.1,r1.2.1.2),(r1.2.2.1.1,r1.2.2.1.2.1,r1.2.2.1.2.2.1,r1.2.2.1.2.2.2.1,r1.2.2.1.2.2.2.2.1,r1.2.2.1.2.2.2.2.2.1,r1.2.2.1.2.2.2.2.2.2),(2:Int),w64 (w64 (r0.1.1 / 2) - 8),r1.2.2.2.2.2.1,r1.2.2.2.2.2.2.1,r1.2.2.2.2.2.2.2.1,r1.2.2.2.2.2.2.2.2.1,r1.2.2.2.2.2.2.2.2.2))) (Tr.bind _ (Tr.br (decide (w64 (r0.1.1 / 2)>=32)) (Tr.ret (decide (w64 (r0.1.1 / 2)<=63),(r1.2.1.1,r1.2.1.2),(r1.2.2.1.1,r1.2.2.1.2.1,r1.2.2.1.2.2.1,r1.2.2.1.2.2.2.1,r1.2.2.1.2.2.2.2.1,r1.2.2.1.2.2.2.2.2.1,r1.2.2.1.2.2.2.2.2.2),r1.2.2.2.1,r1.2.2.2.2.1,r1.2.2.2.2.2.1,r1.2.2.2.2.2.2.1,r1.2.2.2.2.2.2.2.1,r1.2.2.2.2.2.2.2.2.1,r1.2.2.2.2.2.2.2.2.2)) (Tr.ret (false,(r1.2.1.1,r1.2.1.2),(r1.2.2.1.1,r1.2.2.1.2.1,r1.2.2.1.2.2.1,r1.2.2.1.2.2.2.1,r1.2.2.1.2.2.2.2.1,r1.2.2.1.2.2.2.2.2.1,r1.2.2.1.2.2.2.2.2.2),r1.2.2.2.1,r1.2.2.2.2.1,r1.2.2.2.2.2.1,r1.2.2.2.2.2.2.1,r1.2.2.2.2.2.2.2.1,r1.2.2.2.2.2.2.2.2.1,r1.2.2.2.2.2.2.2.2.2))).run (false,((0:Int),[]),((0:Int),(0:Int),(0:Int),(0:Int),(0:Int),(0:Int),(0:Int)),(0:Int),(0:Int),(0:Int),(0:Int),(0:Int),(0:Int),(0:Int)) fun r2=>Tr.br r2.1 (Tr.ret (Sum.inl ((r2.2.1.1,r2.2.1.2),(r2.2.2.1.1,r2.2.2.1.2.1,r2.2.2.1.2.2.1,r2.2.2.1.2.2.2.1,r2.2.2.1.2.2.2.2.1,r2.2.2.1.2.2.2.2.2.1,r2.2.2.1.2.2.2.2.2.2),(3:Int),w64 (w64 (r0.1.1 / 2) - 31),r2.2.2.2.2.2.1,r2.2.2.2.2.2.2.1,r2.2.2.2.2.2.2.2.1,r2.2.2.2.2.2.2.2.2.1,r2.2.2.2.2.2.2.2.2.2))) (Tr.ret (Sum.inr (false,(r2.2.1.1,r2.2.1.2),r2.2.2.2.1,r2.2.2.2.2.1,r2.2.2.2.2.2.1,r2.2.2.2.2.2.2.1,r2.2.2.2.2.2.2.2.1,r2.2.2.2.2.2.2.2.2.1,r2.2.2.2.2.2.2.2.2.2))))).run (Sum.inl (((0:Int),[]),((0:Int),(0:Int),(0:Int),(0:Int),(0:Int),(0:Int),(0:Int)),(0:Int),(0:Int),(0:Int),(0:Int),(0:Int),(0:Int),(0:Int))) fun r3=>Tr.cs _ _ r3 (((0:Int),[]),((0:Int),(0:Int),(0:Int),(0:Int),(0:Int),(0:Int),(0:Int)),(0:Int),(0:Int),(0:Int),(0:Int),(0:Int),(0:Int),(0:Int)) (false,((0:Int),[]),(0:Int),(0:Int),(0:Int),(0:Int),(0:Int),(0:Int),(0:Int)) (fun r4=>Tr.ret (Sum.inl ((r4.1.1,r4.1.2),(r4.2.1.1,r4.2.1.2.1,r4.2.1.2.2.1,r4.2.1.2.2.2.1,r4.2.1.2.2.2.2.1,r4.2.1.2.2.2.2.2.1,r4.2.1.2.2.2.2.2.2),r4.2.2.1,r4.2.2.2.1,r4.2.2.2.2.1,r4.2.2.2.2.2.1,r4.2.2.2.2.2.2.1,r4.2.2.2.2.2.2.2.1,r4.2.2.2.2.2.2.2.2))) fun r5=>Tr.ret (Sum.inr (r5.1,(r5.2.1.1,r5.2.1.2),r5.2.2.1,r5.2.2.2.1,r5.2.2.2.2.1,r5.2.2.2.2.2.1,r5.2.2.2.2.2.2.1,r5.2.2.2.2.2.2.2.1,r5.2.2.2.2.2.2.2.2)))).run (Sum.inl (((0:Int),[]),((0:Int),(0:Int),(0:Int),(0:Int),(0:Int),(0:Int),(0:Int)),(0:Int),(0:Int),(0:Int),(0:Int),(0:Int),(0:Int),(0:Int))) fun r6=>Tr.cs _ _ r6 (((0:Int),[]),((0:Int),(0:Int),(0:Int),(0:Int),(0:Int),(0:Int),(0:Int)),(0:Int),(0:Int),(0:Int),(0:Int),(0:Int),(0:Int),(0:Int)) (false,((0:Int),[]),(0:Int),(0:Int),(0:Int),(0:Int),(0:Int),(0:Int),(0:Int)) (fun r7=>Tr.bind _ (Tr.br (IntKind.u64.wrap (bitsI BinOp.and IntKind.u64 r0.1.1 (1:Int)) == 1) (Tr.bind _ (LQ.UnaryR r7.1.1 r7.1.2) (((0:Int),(0:Int)),(0:Int),[]) fun r8=>Tr.br (r8.1.2 != 0) (Tr.ret (Sum.inl (false,(r8.2.1,r8.2.2),r7.2.2.1,r7.2.2.2.1,r7.2.2.2.2.1,r7.2.2.2.2.2.1,r7.2.2.2.2.2.2.1,r7.2.2.2.2.2.2.2.1,r7.2.2.2.2.2.2.2.2))) (Tr.ret (Sum.inr ((r8.2.1,r8.2.2),(r7.2.1.1,r7.2.1.2.1,r7.2.1.2.2.1,r7.2.1.2.2.2.1,r7.2.1.2.2.2.2.1,r7.2.1.2.2.2.2.2.1,r7.2.1.2.2.2.2.2.2),r7.2.2.1,r7.2.2.2.1,w64 (r8.1.1+1),r7.2.2.2.2.2.1,r7.2.2.2.2.2.2.1,r7.2.2.2.2.2.2.2.1,r7.2.2.2.2.2.2.2.2)))) (Tr.ret (Sum.inr ((r7.1.1,r7.1.2),(r7.2.1.1,r7.2.1.2.1,r7.2.1.2.2.1,r7.2.1.2.2.2.1,r7.2.1.2.2.2.2.1,r7.2.1.2.2.2.2.2.1,r7.2.1.2.2.2.2.2.2),r7.2.2.1,r7.2.2.2.1,r7.2.2.2.2.1,r7.2.2.2.2.2.1,r7.2.2.2.2.2.2.1,r7.2.2.2.2.2.2.2.1,r7.2.2.2.2.2.2.2.2)))).run (Sum.inl (false,((0:Int),[]),(0:Int),(0:Int),(0:Int),(0:Int),(0:Int),(0:Int),(0:Int))) fun r9=>Tr.cs _ _ r9 (false,((0:Int),[]),(0:Int),(0:Int),(0:Int),(0:Int),(0:Int),(0:Int),(0:Int)) (((0:Int),[]),((0:Int),(0:Int),(0:Int),(0:Int),(0:Int),(0:Int),(0:Int)),(0:Int),(0:Int),(0:Int),(0:Int),(0:Int),(0:Int),(0:Int)) (fun r10=>Tr.ret (((r10.2.2.1,r10.2.2.2.1,r10.2.2.2.2.1,r10.2.2.2.2.2.1,r10.2.2.2.2.2.2.1,[],(r10.2.2.2.2.2.2.2.1,r10.2.2.2.2.2.2.2.2,[],[],()),()),r10.1),r10.2.1.1,r10.2.1.2)) fun r11=>Tr.bind _ (Tr.br (decide (r11.2.2.2.2.1<block.2)) (Tr.ret (decide (r11.2.2.2.1<=block.1),(r11.1.1,r11.1.2),r11.2.2.1,r11.2.2.2.1,r11.2.2.2.2.1,r11.2.2.2.2.2.1,r11.2.2.2.2.2.2.1,r11.2.2.2.2.2.2.2.1,r11.2.2.2.2.2.2.2.2)) (Tr.ret (false,(r11.1.1,r11.1.2),r11.2.2.1,r11.2.2.2.1,r11.2.2.2.2.1,r11.2.2.2.2.2.1,r11.2.2.2.2.2.2.1,r11.2.2.2.2.2.2.2.1,r11.2.2.2.2.2.2.2.2))).run (false,((0:Int),[]),(0:Int),(0:Int),(0:Int),(0:Int),(0:Int),(0:Int),(0:Int)) fun r12=>Tr.ret (((r12.2.2.1,r12.2.2.2.1,r12.2.2.2.2.1,r12.2.2.2.2.2.1,r12.2.2.2.2.2.2.1,[],(r12.2.2.2.2.2.2.2.1,r12.2.2.2.2.2.2.2.2,[],[],()),()),r12.1),r12.2.1.1,r12.2.1.2)) fun r13=>Tr.ret (((r13.2.2.1,r13.2.2.2.1,r13.2.2.2.2.1,r13.2.2.2.2.2.1,r13.2.2.2.2.2.2.1,[],(r13.2.2.2.2.2.2.2.1,r13.2.2.2.2.2.2.2.2,[],[],()),()),r13.1),r13.2.1.1,r13.2.1.2))
def head (block:Int×Int) (width:Int) (b0_0:List UInt8):Option (((QS)×Bool)×Int×List UInt8):=(head.t block width b0_0).run
end LQ
def TD.head:Go.LM.Told:=⟨[.ptr 0 0 [],.dat tI,.dat tI],[.vars [.dat tI,.dat .str]],(.tup [(.dat tS),(.dat (Ty.bool))]),[.vars [.dat tI,.dat .str]],fun d=>LQ.head d.1 d.2.1 d.2.2⟩
theorem TD.head_eq:(fun d=>tFn (mkCxD Tryz.prog [2097220,2097249,2097248,2097181,2097266] [(67,[TD.Get]),(89,[TD.UnaryR])]) Tryz.f61 (.t .n (.t .n (.t .n (.t (.t .n (.k [0,1,2,6,8,9] [0,1,2,6,8,9] [] [6,7] .n .n)) (.t (.t .n (.k [0,1,2,6,8,9] [0,1,2,6,8,9] [] [6,7] (.t .n (.k [0,1,2,6,8,9] [0,1,2,6,8,9] [] [6,7] .n (.t (.k [0,1,2,6,8,9,11] [0,1,2,6,8,9,11,31] [] [] .n .n) (.k [0,1,2,6,8,9] [0,1,2,6,8,9] [] [6,7] .n (.t (.k [0,1,2,6,8,9,11] [0,1,2,6,8,9,11,42] [] [] .n .n) (.k [0,1,2,6,8,9] [0,1,2,6,8,9] [] [6,7] .n .n)))))) .n)) (.t (.t .n (.k [1,2,6,8] [1,2,6,8] [] [6,7] (.t .n (.t (.t .n (.k [1,2,6,8,12] [1,2,6,8,12] [] [6,7] .n .n)) .n)) .n)) (.t (.k [6] [6,7] [] [] .n .n) .n))))))) TD.head d)=(fun d=>LQ.head.t d.1 d.2.1 d.2.2):=by kernel_rfl
namespace LQ
def coefs.t (b0_0:Int×List UInt8) (b0_1:Int) (b1_0:Int) (b1_1:Int) (b1_2:Int) (b1_3:Int) (b1_4:List Int) (b1_5:Int) (b1_6:Int) (b1_7:List Int) (b1_8:List Int):Tr (Bool×(Int×List UInt8)×QT):=
 Tr.bind _ (LQ.Get (4:Int) b0_0.1 b0_0.2) (((0:Int),(0:Int)),(0:Int),[]) fun r0=>Tr.bind _ (LQ.Get (5:Int) r0.2.1 r0.2.2) (((0:Int),(0:Int)),(0:Int),[]) fun r1=>Tr.bind _ (Tr.br (r0.1.2 != 0) (Tr.ret (true,(r1.2.1,r1.2.2),b0_1,b1_0,b1_1,b1_2,b1_3,b1_4,b1_5,b1_6,b1_7,b1_8)) (Tr.br (r1.1.2 != 0) (Tr.ret (true,(r1.2.1,r1.2.2),b0_1,b1_0,b1_1,b1_2,b1_3,b1_4,b1_5,b1_6,b1_7,b1_8)) (Tr.br (r0.1.1 == 15) (Tr.ret (true,(r1.2.1,r1.2.2),b0_1,b1_0,b1_1,b1_2,b1_3,b1_4,b1_5,b1_6,b1_7,b1_8)) (Tr.ret (decide (r1.1.1>15),(r1.2.1,r1.2.2),b0_1,b1_0,b1_1,b1_2,b1_3,b1_4,b1_5,b1_6,b1_7,b1_8))))).run (false,((0:Int),[]),(0:Int),(0:Int),(0:Int),(0:Int),(0:Int),[],(0:Int),(0:Int),[],[]) fun r2=>Tr.br r2.1 (Tr.ret (false,(r2.2.1.1,r2.2.1.2),r2.2.2.1,r2.2.2.2.1,r2.2.2.2.2.1,r2.2.2.2.2.2.1,r2.2.2.2.2.2.2.1,r2.2.2.2.2.2.2.2.1,r2.2.2.2.2.2.2.2.2.1,r2.2.2.2.2.2.2.2.2.2.1,r2.2.2.2.2.2.2.2.2.2.2.1,r2.2.2.2.2.2.2.2.2.2.2.2)) (Tr.bind _ (LQ.numbers (r2.2.2.2.1,w64 (w64 r0.1.1+1)) r2.2.1.1 r2.2.1.2) (([],false),(0:Int),[]) fun r3=>Tr.ret (r3.1.2,(r3.2.1,r3.2.2),r2.2.2.1,r2.2.2.2.1,r2.2.2.2.2.1,w64 (w64 r0.1.1+1),w64 r1.1.1,r3.1.1,r2.2.2.2.2.2.2.2.2.1,r2.2.2.2.2.2.2.2.2.2.1,r2.2.2.2.2.2.2.2.2.2.2.1,r2.2.2.2.2.2.2.2.2.2.2.2))
def coefs (b0_0:Int×List UInt8) (b0_1:Int) (b1_0:Int) (b1_1:Int) (b1_2:Int) (b1_3:Int) (b1_4:List Int) (b1_5:Int) (b1_6:Int) (b1_7:List Int) (b1_8:List Int):Option (Bool×(Int×List UInt8)×QT):=(coefs.t b0_0 b0_1 b1_0 b1_1 b1_2 b1_3 b1_4 b1_5 b1_6 b1_7 b1_8).run
end LQ
def TD.coefs:Go.LM.Told:=⟨[.ptr 0 0 [],.ptr 1 0 []],[.vars [.dat tI,.dat .str],.vars [.dat tI,.dat tI,.dat tI,.dat tI,.dat tI,.dat (.sl (.int .i64)),.dat tI,.dat tI,.dat (.sl (.int .i64)),.dat (.sl (.int .i64))]],(.dat (Ty.bool)),[.vars [.dat tI,.dat .str],.vars [.dat tI,.dat tI,.dat tI,.dat tI,.dat tI,.dat (.sl (.int .i64)),.dat tI,.dat tI,.dat (.sl (.int .i64)),.dat (.sl (.int .i64))]],fun d=>LQ.coefs d.1 d.2.1 d.2.2.1 d.2.2.2.1 d.2.2.2.2.1 d.2.2.2.2.2.1 d.2.2.2.2.2.2.1 d.2.2.2.2.2.2.2.1 d.2.2.2.2.2.2.2.2.1 d.2.2.2.2.2.2.2.2.2.1 d.2.2.2.2.2.2.2.2.2.2⟩
theorem TD.coefs_eq:(fun d=>tFn (mkCxD Tryz.prog [2097220,2097249,2097248,2097181,2097266] [(67,[TD.Get]),(90,[TD.numbers])]) Tryz.f92 (.t .n (.t .n (.t .n (.t (.t (.k [0,1,5,7] [0,1,5,7,34] [] [] .n .n) (.k [0,1,5,7] [0,1,5,7] [] [4] .n .n)) .n)))) TD.coefs d)=(fun d=>LQ.coefs.t d.1 d.2.1 d.2.2.1 d.2.2.2.1 d.2.2.2.2.1 d.2.2.2.2.2.1 d.2.2.2.2.2.2.1 d.2.2.2.2.2.2.2.1 d.2.2.2.2.2.2.2.2.1 d.2.2.2.2.2.2.2.2.2.1 d.2.2.2.2.2.2.2.2.2.2):=by kernel_rfl
namespace LQ
def Mul32.t (x:Int) (y:Int):Tr (Int×Int):=
 Tr.ret (IntKind.u32.wrap (IntKind.u64.wrap (IntKind.u64.wrap x*IntKind.u64.wrap y) / 4294967296),IntKind.u32.wrap (IntKind.u64.wrap (IntKind.u64.wrap x*IntKind.u64.wrap y)))
def Mul32 (x:Int) (y:Int):Option (Int×Int):=(Mul32.t x y).run
end LQ
def TD.Mul32:Go.LM.Told:=⟨[(.dat (Ty.int IntKind.u32)),(.dat (Ty.int IntKind.u32))],[],(.tup [(.dat (Ty.int IntKind.u32)),(.dat (Ty.int IntKind.u32))]),[],fun d=>LQ.Mul32 d.1 d.2⟩
theorem TD.Mul32_eq:(fun d=>tFn (mkCxD Tryz.prog [2097220,2097249,2097248,2097181,2097266] []) Tryz.f115 .n TD.Mul32 d)=(fun d=>LQ.Mul32.t d.1 d.2):=by kernel_rfl
namespace LQ
def Mul64.t (x:Int) (y:Int):Tr (Int×Int):=
 Tr.ret (IntKind.u64.wrap (IntKind.u64.wrap (IntKind.u64.wrap (x / 4294967296*(y / 4294967296))+IntKind.u64.wrap (IntKind.u64.wrap (x / 4294967296*IntKind.u64.wrap (bitsI BinOp.and IntKind.u64 y (4294967295:Int)))+IntKind.u64.wrap (IntKind.u64.wrap (bitsI BinOp.and IntKind.u64 x (4294967295:Int))*IntKind.u64.wrap (bitsI BinOp.and IntKind.u64 y (4294967295:Int))) / 4294967296) / 4294967296)+IntKind.u64.wrap (IntKind.u64.wrap (bitsI BinOp.and IntKind.u64 (IntKind.u64.wrap (IntKind.u64.wrap (x / 4294967296*IntKind.u64.wrap (bitsI BinOp.and IntKind.u64 y (4294967295:Int)))+IntKind.u64.wrap (IntKind.u64.wrap (bitsI BinOp.and IntKind.u64 x (4294967295:Int))*IntKind.u64.wrap (bitsI BinOp.and IntKind.u64 y (4294967295:Int))) / 4294967296)) (4294967295:Int))+IntKind.u64.wrap (IntKind.u64.wrap (bitsI BinOp.and IntKind.u64 x (4294967295:Int))*(y / 4294967296))) / 4294967296),IntKind.u64.wrap (x*y))
def Mul64 (x:Int) (y:Int):Option (Int×Int):=(Mul64.t x y).run
end LQ
def TD.Mul64:Go.LM.Told:=⟨[(.dat (Ty.int IntKind.u64)),(.dat (Ty.int IntKind.u64))],[],(.tup [(.dat (Ty.int IntKind.u64)),(.dat (Ty.int IntKind.u64))]),[],fun d=>LQ.Mul64 d.1 d.2⟩
theorem TD.Mul64_eq:(fun d=>tFn (mkCxD Tryz.prog [2097220,2097249,2097248,2097181,2097266] []) Tryz.f116 .n TD.Mul64 d)=(fun d=>LQ.Mul64.t d.1 d.2):=by kernel_rfl
namespace LQ
def bMul.t (x:Int) (y:Int):Tr (Int×Int):=
 Tr.bind _ (LQ.Mul64 x y) ((0:Int),(0:Int)) fun r0=>Tr.ret (r0.1,r0.2)
def bMul (x:Int) (y:Int):Option (Int×Int):=(bMul.t x y).run
end LQ
def TD.bMul:Go.LM.Told:=⟨[(.dat (Ty.int IntKind.u64)),(.dat (Ty.int IntKind.u64))],[],(.tup [(.dat (Ty.int IntKind.u64)),(.dat (Ty.int IntKind.u64))]),[],fun d=>LQ.bMul d.1 d.2⟩
theorem TD.bMul_eq:(fun d=>tFn (mkCxD Tryz.prog [2097220,2097249,2097248,2097181,2097266] [(115,[TD.Mul32]),(116,[TD.Mul64])]) Tryz.f110 (.t .n (.t (.k [0,1] [0,1] [] [4,5] .n .n) .n)) TD.bMul d)=(fun d=>LQ.bMul.t d.1 d.2):=by kernel_rfl
namespace LQ
def RepI.l0 (n:Int) (row0:List Int):Tr (Int×List Int⊕List Int):=
 Tr.br (decide (n<Int.ofNat row0.length)) (Tr.need (0<=n/\n<=Int.ofNat row0.length/\Int.ofNat row0.length<=Int.ofNat row0.length) (Tr.need ((0:Int)<=0/\0<=n/\n<=Int.ofNat row0.length) (Tr.ret (Sum.inl (w64 (n+Int.ofNat (min (List.take (n - 0).toNat (List.drop 0 row0)).length (Int.ofNat row0.length - n).toNat)),List.take n.toNat row0++(List.take (Int.ofNat row0.length - n).toNat (List.take (n - 0).toNat (List.drop 0 row0))++List.drop (n.toNat+min (List.take (n - 0).toNat (List.drop 0 row0)).length (Int.ofNat row0.length - n).toNat) row0)))))) (Tr.ret (Sum.inr row0))
def RepI.t (x:List Int) (count:Int):Tr (List Int):=
 Tr.br (decide (count<0)) (Tr.fail (Why.op (nat_lit 3072) [Sh.dat Ty.str])) (Tr.bind _ (LQ.bMul (IntKind.u64.wrap (Int.ofNat x.length)) (IntKind.u64.wrap count)) ((0:Int),(0:Int)) fun r0=>Tr.bind _ (Tr.br (decide (r0.1>0)) (Tr.ret true) (Tr.ret (decide (r0.2>9223372036854775807)))).run false fun r1=>Tr.br r1 (Tr.fail (Why.op (nat_lit 0) [Sh.dat Ty.str])) (Tr.need (0<=w64 r0.2/\w64 r0.2<=w64 r0.2/\(w64 r0.2).toNat*8<=140737488355328) (Tr.bind _ (loopO (fun (d:Int×List Int)=>(RepI.l0 d.1 d.2).run) (Int.ofNat (min x.length (Int.ofNat (List.replicate (w64 r0.2).toNat (0:Int)).length - 0).toNat),List.take 0 (List.replicate (w64 r0.2).toNat (0:Int))++(List.take (Int.ofNat (List.replicate (w64 r0.2).toNat (0:Int)).length - 0).toNat x++List.drop (0+min x.length (Int.ofNat (List.replicate (w64 r0.2).toNat (0:Int)).length - 0).toNat) (List.replicate (w64 r0.2).toNat (0:Int))))) [] fun r2=>Tr.ret r2)))
def RepI (x:List Int) (count:Int):Option (List Int):=(RepI.t x count).run
end LQ
def TD.RepI:Go.LM.Told:=⟨[(.dat (tI.sl)),(.dat tI)],[],(.dat (tI.sl)),[],fun d=>LQ.RepI d.1 d.2⟩
theorem TD.RepI_eq:(fun d=>tFn (mkCxD Tryz.prog [2097220,2097249,2097248,2097181,2097266] [(110,[TD.bMul])]) Tryz.f91 (.t .n (.t (.t .n (.k [0,1] [0,1] [] [] .n .n)) (.t .n (.t (.t (.k [0,6] [0,6,26] [] [] .n .n) (.k [0,6] [0,6] [] [] .n .n)) (.t .n (.t .n (.t (.k [7] [7] [] [] (.k [7] [7,8] [(0,[7])] [] (.t (.t .n (.k [7,8] [7,8] [(0,[7])] [] .n .n)) (.k [7] [7,8] [] [] .n .n)) .n) .n) .n))))))) TD.RepI d)=(fun d=>LQ.RepI.t d.1 d.2):=by kernel_rfl
namespace LQ
def dec1.t (n:Int) (b0_0:Int) (b1_0:Int) (b1_1:Int) (b1_2:Int) (b1_3:Int) (b1_4:Int) (b1_5:List Int) (b1_6:Int) (b1_7:Int) (b1_8:List Int) (b1_9:List Int):Tr (Bool×Int×QT):=
 Tr.bind _ (LQ.sfits n (w64 (b0_0 - b1_2))) false fun r0=>Tr.ret (!r0,b0_0,b1_0,b1_1,b1_2,b1_3,b1_4,b1_5,b1_6,b1_7,b1_8,b1_9)
def dec1 (n:Int) (b0_0:Int) (b1_0:Int) (b1_1:Int) (b1_2:Int) (b1_3:Int) (b1_4:Int) (b1_5:List Int) (b1_6:Int) (b1_7:Int) (b1_8:List Int) (b1_9:List Int):Option (Bool×Int×QT):=(dec1.t n b0_0 b1_0 b1_1 b1_2 b1_3 b1_4 b1_5 b1_6 b1_7 b1_8 b1_9).run
end LQ
def TD.dec1:Go.LM.Told:=⟨[.dat tI,.ptr 0 0 [],.ptr 1 0 []],[.vars [.dat tI],.vars [.dat tI,.dat tI,.dat tI,.dat tI,.dat tI,.dat (.sl (.int .i64)),.dat tI,.dat tI,.dat (.sl (.int .i64)),.dat (.sl (.int .i64))]],(.dat (Ty.bool)),[.vars [.dat tI],.vars [.dat tI,.dat tI,.dat tI,.dat tI,.dat tI,.dat (.sl (.int .i64)),.dat tI,.dat tI,.dat (.sl (.int .i64)),.dat (.sl (.int .i64))]],fun d=>LQ.dec1 d.1 d.2.1 d.2.2.1 d.2.2.2.1 d.2.2.2.2.1 d.2.2.2.2.2.1 d.2.2.2.2.2.2.1 d.2.2.2.2.2.2.2.1 d.2.2.2.2.2.2.2.2.1 d.2.2.2.2.2.2.2.2.2.1 d.2.2.2.2.2.2.2.2.2.2.1 d.2.2.2.2.2.2.2.2.2.2.2⟩
theorem TD.dec1_eq:(fun d=>tFn (mkCxD Tryz.prog [2097220,2097249,2097248,2097181,2097266] [(64,[TD.sfits])]) Tryz.f63 .n TD.dec1 d)=(fun d=>LQ.dec1.t d.1 d.2.1 d.2.2.1 d.2.2.2.1 d.2.2.2.2.1 d.2.2.2.2.2.1 d.2.2.2.2.2.2.1 d.2.2.2.2.2.2.2.1 d.2.2.2.2.2.2.2.2.1 d.2.2.2.2.2.2.2.2.2.1 d.2.2.2.2.2.2.2.2.2.2.1 d.2.2.2.2.2.2.2.2.2.2.2):=by kernel_rfl
namespace LQ
def IdxG.l0 (s:List Int) (t8:Int) (blk0:Int) (blk1_0:Int) (blk1_1:Int) (blk1_2:Int) (blk1_3:Int) (blk1_4:Int) (blk1_5:List Int) (blk1_6:Int) (blk1_7:Int) (blk1_8:List Int) (blk1_9:List Int):Tr (Int×Int×QT⊕Int×Int×QT⊕Int×QT):=
 Tr.br (decide (t8<Int.ofNat s.length)) (Tr.need (0<=t8/\t8<Int.ofNat s.length) (Tr.bind _ (LQ.dec1 (s.getD t8.toNat (0:Int)) blk0 blk1_0 blk1_1 blk1_2 blk1_3 blk1_4 blk1_5 blk1_6 blk1_7 blk1_8 blk1_9) (false,(0:Int),(0:Int),(0:Int),(0:Int),(0:Int),(0:Int),[],(0:Int),(0:Int),[],[]) fun r0=>Tr.br r0.1 (Tr.ret (Sum.inr (Sum.inl (t8,r0.2.1,r0.2.2.1,r0.2.2.2.1,r0.2.2.2.2.1,r0.2.2.2.2.2.1,r0.2.2.2.2.2.2.1,r0.2.2.2.2.2.2.2.1,r0.2.2.2.2.2.2.2.2.1,r0.2.2.2.2.2.2.2.2.2.1,r0.2.2.2.2.2.2.2.2.2.2.1,r0.2.2.2.2.2.2.2.2.2.2.2)))) (Tr.ret (Sum.inl (w64 (t8+1),r0.2.1,r0.2.2.1,r0.2.2.2.1,r0.2.2.2.2.1,r0.2.2.2.2.2.1,r0.2.2.2.2.2.2.1,r0.2.2.2.2.2.2.2.1,r0.2.2.2.2.2.2.2.2.1,r0.2.2.2.2.2.2.2.2.2.1,r0.2.2.2.2.2.2.2.2.2.2.1,r0.2.2.2.2.2.2.2.2.2.2.2))))) (Tr.ret (Sum.inr (Sum.inr (blk0,blk1_0,blk1_1,blk1_2,blk1_3,blk1_4,blk1_5,blk1_6,blk1_7,blk1_8,blk1_9))))
def IdxG.t (s:List Int) (b0_0:Int) (b1_0:Int) (b1_1:Int) (b1_2:Int) (b1_3:Int) (b1_4:Int) (b1_5:List Int) (b1_6:Int) (b1_7:Int) (b1_8:List Int) (b1_9:List Int):Tr (Int×Int×QT):=
 Tr.bind _ (loopO (fun (d:Int×Int×QT)=>(IdxG.l0 s d.1 d.2.1 d.2.2.1 d.2.2.2.1 d.2.2.2.2.1 d.2.2.2.2.2.1 d.2.2.2.2.2.2.1 d.2.2.2.2.2.2.2.1 d.2.2.2.2.2.2.2.2.1 d.2.2.2.2.2.2.2.2.2.1 d.2.2.2.2.2.2.2.2.2.2.1 d.2.2.2.2.2.2.2.2.2.2.2).run) ((0:Int),b0_0,b1_0,b1_1,b1_2,b1_3,b1_4,b1_5,b1_6,b1_7,b1_8,b1_9)) (Sum.inl ((0:Int),(0:Int),(0:Int),(0:Int),(0:Int),(0:Int),(0:Int),[],(0:Int),(0:Int),[],[])) fun r1=>Tr.cs _ _ r1 ((0:Int),(0:Int),(0:Int),(0:Int),(0:Int),(0:Int),(0:Int),[],(0:Int),(0:Int),[],[]) ((0:Int),(0:Int),(0:Int),(0:Int),(0:Int),(0:Int),[],(0:Int),(0:Int),[],[]) (fun r2=>Tr.ret (r2.1,r2.2.1,r2.2.2.1,r2.2.2.2.1,r2.2.2.2.2.1,r2.2.2.2.2.2.1,r2.2.2.2.2.2.2.1,r2.2.2.2.2.2.2.2.1,r2.2.2.2.2.2.2.2.2.1,r2.2.2.2.2.2.2.2.2.2.1,r2.2.2.2.2.2.2.2.2.2.2.1,r2.2.2.2.2.2.2.2.2.2.2.2)) fun r3=>Tr.ret ((-1:Int),r3.1,r3.2.1,r3.2.2.1,r3.2.2.2.1,r3.2.2.2.2.1,r3.2.2.2.2.2.1,r3.2.2.2.2.2.2.1,r3.2.2.2.2.2.2.2.1,r3.2.2.2.2.2.2.2.2.1,r3.2.2.2.2.2.2.2.2.2.1,r3.2.2.2.2.2.2.2.2.2.2)
def IdxG (s:List Int) (b0_0:Int) (b1_0:Int) (b1_1:Int) (b1_2:Int) (b1_3:Int) (b1_4:Int) (b1_5:List Int) (b1_6:Int) (b1_7:Int) (b1_8:List Int) (b1_9:List Int):Option (Int×Int×QT):=(IdxG.t s b0_0 b1_0 b1_1 b1_2 b1_3 b1_4 b1_5 b1_6 b1_7 b1_8 b1_9).run
end LQ
def TD.IdxG:Go.LM.Told:=⟨[.dat (.sl (.int .i64)),.fn 63 [.ptr 0 0 [],.ptr 1 0 []]],[.vars [.dat tI],.vars [.dat tI,.dat tI,.dat tI,.dat tI,.dat tI,.dat (.sl (.int .i64)),.dat tI,.dat tI,.dat (.sl (.int .i64)),.dat (.sl (.int .i64))]],(.dat tI),[.vars [.dat tI],.vars [.dat tI,.dat tI,.dat tI,.dat tI,.dat tI,.dat (.sl (.int .i64)),.dat tI,.dat tI,.dat (.sl (.int .i64)),.dat (.sl (.int .i64))]],fun d=>LQ.IdxG d.1 d.2.1 d.2.2.1 d.2.2.2.1 d.2.2.2.2.1 d.2.2.2.2.2.1 d.2.2.2.2.2.2.1 d.2.2.2.2.2.2.2.1 d.2.2.2.2.2.2.2.2.1 d.2.2.2.2.2.2.2.2.2.1 d.2.2.2.2.2.2.2.2.2.2.1 d.2.2.2.2.2.2.2.2.2.2.2⟩
theorem TD.IdxG_eq:(fun d=>tFn (mkCxD Tryz.prog [2097220,2097249,2097248,2097181,2097266] [(63,[TD.dec1])]) Tryz.f74 (.t .n (.t (.t .n (.k [] [] [] [4] (.k [0,1,7] [0,1,7,8] [(0,[])] [4] (.t .n (.t (.k [0,1,7,8] [0,1,7,8] [(0,[])] [] .n .n) (.t (.k [0,1,7,8] [0,1,7,8] [] [4] (.t .n (.t .n (.k [0,1,7,8] [0,1,7,8] [] [4] .n .n))) .n) .n))) .n) .n)) .n)) TD.IdxG d)=(fun d=>LQ.IdxG.t d.1 d.2.1 d.2.2.1 d.2.2.2.1 d.2.2.2.2.1 d.2.2.2.2.2.1 d.2.2.2.2.2.2.1 d.2.2.2.2.2.2.2.1 d.2.2.2.2.2.2.2.2.1 d.2.2.2.2.2.2.2.2.2.1 d.2.2.2.2.2.2.2.2.2.2.1 d.2.2.2.2.2.2.2.2.2.2.2):=by kernel_rfl
namespace LQ
def ConG.t (s:List Int) (b0_0:Int) (b1_0:Int) (b1_1:Int) (b1_2:Int) (b1_3:Int) (b1_4:Int) (b1_5:List Int) (b1_6:Int) (b1_7:Int) (b1_8:List Int) (b1_9:List Int):Tr (Bool×Int×QT):=
 Tr.bind _ (LQ.IdxG s b0_0 b1_0 b1_1 b1_2 b1_3 b1_4 b1_5 b1_6 b1_7 b1_8 b1_9) ((0:Int),(0:Int),(0:Int),(0:Int),(0:Int),(0:Int),(0:Int),[],(0:Int),(0:Int),[],[]) fun r0=>Tr.ret (decide (r0.1>=0),r0.2.1,r0.2.2.1,r0.2.2.2.1,r0.2.2.2.2.1,r0.2.2.2.2.2.1,r0.2.2.2.2.2.2.1,r0.2.2.2.2.2.2.2.1,r0.2.2.2.2.2.2.2.2.1,r0.2.2.2.2.2.2.2.2.2.1,r0.2.2.2.2.2.2.2.2.2.2.1,r0.2.2.2.2.2.2.2.2.2.2.2)
def ConG (s:List Int) (b0_0:Int) (b1_0:Int) (b1_1:Int) (b1_2:Int) (b1_3:Int) (b1_4:Int) (b1_5:List Int) (b1_6:Int) (b1_7:Int) (b1_8:List Int) (b1_9:List Int):Option (Bool×Int×QT):=(ConG.t s b0_0 b1_0 b1_1 b1_2 b1_3 b1_4 b1_5 b1_6 b1_7 b1_8 b1_9).run
end LQ
def TD.ConG:Go.LM.Told:=⟨[.dat (.sl (.int .i64)),.fn 63 [.ptr 0 0 [],.ptr 1 0 []]],[.vars [.dat tI],.vars [.dat tI,.dat tI,.dat tI,.dat tI,.dat tI,.dat (.sl (.int .i64)),.dat tI,.dat tI,.dat (.sl (.int .i64)),.dat (.sl (.int .i64))]],(.dat (Ty.bool)),[.vars [.dat tI],.vars [.dat tI,.dat tI,.dat tI,.dat tI,.dat tI,.dat (.sl (.int .i64)),.dat tI,.dat tI,.dat (.sl (.int .i64)),.dat (.sl (.int .i64))]],fun d=>LQ.ConG d.1 d.2.1 d.2.2.1 d.2.2.2.1 d.2.2.2.2.1 d.2.2.2.2.2.1 d.2.2.2.2.2.2.1 d.2.2.2.2.2.2.2.1 d.2.2.2.2.2.2.2.2.1 d.2.2.2.2.2.2.2.2.2.1 d.2.2.2.2.2.2.2.2.2.2.1 d.2.2.2.2.2.2.2.2.2.2.2⟩
theorem TD.ConG_eq:(fun d=>tFn (mkCxD Tryz.prog [2097220,2097249,2097248,2097181,2097266] [(74,[TD.IdxF,TD.IdxG]),(63,[TD.dec1])]) Tryz.f39 .n TD.ConG d)=(fun d=>LQ.ConG.t d.1 d.2.1 d.2.2.1 d.2.2.2.1 d.2.2.2.2.1 d.2.2.2.2.2.1 d.2.2.2.2.2.2.1 d.2.2.2.2.2.2.2.1 d.2.2.2.2.2.2.2.2.1 d.2.2.2.2.2.2.2.2.2.1 d.2.2.2.2.2.2.2.2.2.2.1 d.2.2.2.2.2.2.2.2.2.2.2):=by kernel_rfl
namespace LQ
def Unshift.l0 (l:List Int) (by_:Int) (t17:Int) (row0:List Int):Tr (Int×List Int⊕List Int):=
 Tr.br (decide (t17<Int.ofNat l.length)) (Tr.need (0<=t17/\t17<Int.ofNat l.length) (Tr.need (0<=by_) (Tr.need ((row0.length+((List.replicate 1 (0:Int)).set 0 (w64 (l.getD t17.toNat 0*p2 by_ 64))).length)*8<=140737488355328) (Tr.ret (Sum.inl (w64 (t17+1),row0++(List.replicate 1 (0:Int)).set 0 (w64 (l.getD t17.toNat 0*p2 by_ 64)))))))) (Tr.ret (Sum.inr row0))
def Unshift.t (l:List Int) (by_:Int):Tr (List Int×Int):=
 Tr.bind _ (Tr.br (decide (by_<0)) (Tr.ret true) (Tr.ret (decide (by_>31)))).run false fun r0=>Tr.br r0 (Tr.ret ([],(1:Int))) (Tr.bind _ (loopO (fun (d:Int×List Int)=>(Unshift.l0 l by_ d.1 d.2).run) ((0:Int),[])) [] fun r1=>Tr.ret (r1,(0:Int)))
def Unshift (l:List Int) (by_:Int):Option (List Int×Int):=(Unshift.t l by_).run
end LQ
def TD.Unshift:Go.LM.Told:=⟨[(.dat (tI.sl)),(.dat tI)],[],(.tup [(.dat (tI.sl)),(.dat tI)]),[],fun d=>LQ.Unshift d.1 d.2⟩
theorem TD.Unshift_eq:(fun d=>tFn (mkCxD Tryz.prog [2097220,2097249,2097248,2097181,2097266] []) Tryz.f65 (.t .n (.t (.t (.k [0,1] [0,1,14] [] [] .n .n) (.k [0,1] [0,1] [] [4,5] .n .n)) (.t .n (.t (.t .n (.k [] [6] [] [] (.k [1,15,16] [1,6,15,16,17] [(0,[6])] [] (.t .n (.t (.k [1,6,15,16,17] [1,6,15,16,17] [(0,[6])] [] .n .n) (.t (.k [1,15,16,17] [1,6,15,16,17] [] [] .n .n) .n))) .n) .n)) .n)))) TD.Unshift d)=(fun d=>LQ.Unshift.t d.1 d.2):=by kernel_rfl
namespace LQ
def rInts.l0 (a:List Int) (b:List Int) (i:Int):Tr (Int⊕Bool⊕PUnit):=
 Tr.br (decide (i<Int.ofNat a.length)) (Tr.need (0<=i/\i<Int.ofNat a.length) (Tr.need (0<=i/\i<Int.ofNat b.length) (Tr.br (a.getD i.toNat (0:Int) != b.getD i.toNat (0:Int)) (Tr.ret (Sum.inr (Sum.inl false))) (Tr.ret (Sum.inl (w64 (i+1))))))) (Tr.ret (Sum.inr (Sum.inr ())))
def rInts.t (a:List Int) (b:List Int):Tr (Bool):=
 Tr.br (Int.ofNat a.length != Int.ofNat b.length) (Tr.ret false) (Tr.bind _ (loopO (fun (d:Int)=>(rInts.l0 a b d).run) (0:Int)) (Sum.inl false) fun r0=>Tr.cs _ _ r0 false () (fun r1=>Tr.ret r1) fun r2=>Tr.ret true)
def rInts (a:List Int) (b:List Int):Option (Bool):=(rInts.t a b).run
end LQ
def TD.rInts:Go.LM.Told:=⟨[(.dat (tI.sl)),(.dat (tI.sl))],[],(.dat (Ty.bool)),[],fun d=>LQ.rInts d.1 d.2⟩
theorem TD.rInts_eq:(fun d=>tFn (mkCxD Tryz.prog [2097220,2097249,2097248,2097181,2097266] []) Tryz.f31 (.t .n (.t (.t .n (.k [0,1] [0,1] [] [4] .n .n)) (.t (.t .n (.k [] [] [] [4] (.k [0,1] [0,1,5] [(0,[])] [4] (.t (.t .n (.k [0,1,5] [0,1,5] [(0,[])] [] .n .n)) (.t (.k [0,1,5] [0,1,5] [] [4] (.t .n (.k [0,1,5] [0,1,5] [] [4] .n .n)) .n) .n)) .n) .n)) .n))) TD.rInts d)=(fun d=>LQ.rInts.t d.1 d.2):=by kernel_rfl
end
end
end Go.Proofs.YtedcnpankkaboaaGreat.Dg
