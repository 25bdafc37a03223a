/- FhX: FhA FhB FhC FhD FhE FhF FhG FhH FhI FhJ FhK FhL FhM FhN FhO FhP. -/
import Derived.Test.YtedcnpankkaboaaGreatFrZ
import Derived.Test.YtedcnpankkaboaaGreatLmH
import Derived.Test.YtedcnpankkaboaaGreatFrY
import Derived.Test.YtedcnpankkaboaaGreatFgB
import Derived.Test.YtedcnpankkaboaaGreatFrW
set_option linter.unusedSimpArgs false
set_option linter.unusedVariables false
namespace Go.Proofs.YtedcnpankkaboaaGreat.Dg
section
set_option maxRecDepth 100000
open Go.LM
theorem bv_nat (w a:Nat):BitVec.ofInt w (a:Int)=BitVec.ofNat w a:=by
 apply BitVec.eq_of_toNat_eq
 simp [BitVec.toNat_ofInt]
theorem xor32 (a b:Nat) (ha:a<4294967296) (hb:b<4294967296):bitsI BinOp.xor IntKind.u32 (a:Int) (b:Int)=((a ^^^ b:Nat):Int):=by
 unfold bitsI
 rw [bv_nat,bv_nat]
 show (((BitVec.ofNat 32 a) ^^^ (BitVec.ofNat 32 b)).toNat:Int)=_
 rw [BitVec.toNat_xor,BitVec.toNat_ofNat,BitVec.toNat_ofNat,Nat.mod_eq_of_lt ha,Nat.mod_eq_of_lt hb]
theorem xor32_lt (a b:Nat) (ha:a<4294967296) (hb:b<4294967296):a ^^^ b<4294967296:=Nat.xor_lt_two_pow (n:=32) ha hb
theorem and32_1 (a:Nat) (ha:a<4294967296):bitsI BinOp.and IntKind.u32 (a:Int) (1:Int)=((a % 2:Nat):Int):=by
 unfold bitsI
 rw [bv_nat,show (1:Int)=((1:Nat):Int) from rfl,bv_nat]
 show (((BitVec.ofNat 32 a) &&& (BitVec.ofNat 32 1)).toNat:Int)=_
 rw [BitVec.toNat_and,BitVec.toNat_ofNat,BitVec.toNat_ofNat,Nat.mod_eq_of_lt ha]
 rw [show 1 % 2 ^ 32=1 from rfl,Nat.and_one_is_mod]
def tst (w p n:Nat):Nat:=if n / 2 ^ (w - 1) % 2=1 then (n*2 % 4294967296) ^^^ p else n*2 % 4294967296
def itN (f:Nat->Nat):Nat->Nat->Nat
 |0,x=>x
 |k+1,x=>f (itN f k x)
def tabN (w p i:Nat):Nat:=itN (tst w p) 8 (i*2 ^ (w - 8))
theorem tst_lt (w p n:Nat) (hp:p<4294967296):tst w p n<4294967296:=by
 unfold tst
 split
 ·exact xor32_lt _ _ (Nat.mod_lt _ (by decide)) hp
 ·exact Nat.mod_lt _ (by decide)
theorem itN_lt (w p n:Nat) (hp:p<4294967296) (hn:n<4294967296):∀ k,itN (tst w p) k n<4294967296
 |0=>hn
 |k+1=>tst_lt _ _ _ hp
theorem wr32 (a:Nat) (h:a<4294967296):IntKind.u32.wrap (a:Int)=(a:Int):=u32_id (by omega)
theorem p2_nat' (k n:Nat) (h:k<=n):p2 ((k:Nat):Int) n=((2 ^ k:Nat):Int):=by
 unfold p2
 rw [Int.toNat_natCast,Nat.min_eq_left h]
theorem tl1_step (w p n t:Nat) (hw:w=8\/w=16) (hp:p<4294967296) (hn:n<4294967296) (ht:t<8) (A B:List Int) :
  (LQ.table.l1 (n:Int) (t:Int) ((w:Int),(p:Int),false) A B).run=some (.inl (((tst w p n:Nat):Int),((t+1:Nat):Int),((w:Int),(p:Int),false),A,B)):=by
 have hw1:w64 ((w:Int) - 1)=((w - 1:Nat):Int):=by
  rw [w64_id (by omega)];omega
 have hpw:p2 (((w - 1:Nat):Int)) 32=((2 ^ (w - 1):Nat):Int):=p2_nat' _ _ (by omega)
 have hd:((n:Int) / ((2 ^ (w - 1):Nat):Int))=((n / 2 ^ (w - 1):Nat):Int):=by rw [Int.natCast_ediv]
 have hdl:n / 2 ^ (w - 1)<4294967296:=Nat.lt_of_le_of_lt (Nat.div_le_self _ _) hn
 have hm:IntKind.u32.wrap ((n:Int)*2)=((n*2 % 4294967296:Nat):Int):=by rw [IntKind.wrap_u32];omega
 have hml:n*2 % 4294967296<4294967296:=Nat.mod_lt _ (by decide)
 have hc:(IntKind.u32.wrap (bitsI BinOp.and IntKind.u32 ((n:Int) / p2 (w64 ((w:Int) - 1)) 32) 1) == 1)=decide (n / 2 ^ (w - 1) % 2=1):=by
  rw [hw1,hpw,hd,and32_1 _ hdl,wr32 _ (by omega)]
  rcases Nat.mod_two_eq_zero_or_one (n / 2 ^ (w - 1)) with e|e<;>rw [e]<;>rfl
 have hx:IntKind.u32.wrap (bitsI BinOp.xor IntKind.u32 (IntKind.u32.wrap ((n:Int)*2)) (IntKind.u32.wrap (p:Int)))=(((n*2 % 4294967296) ^^^ p:Nat):Int):=by
  rw [hm,wr32 p hp,xor32 _ _ hml hp,wr32 _ (xor32_lt _ _ hml hp)]
 have ht1:w64 ((t:Int)+1)=((t+1:Nat):Int):=by rw [w64_id (by omega)];omega
 have ht2:decide ((t:Int)<8)=true:=zT (by omega)
 unfold LQ.table.l1
 rw [Tr.rR,ht2]
 have hn0:(0:Int)<=w64 ((w:Int) - 1):=by rw [hw1];omega
 simp only [zC,zc,Tr.rB,Tr.rR,Tr.rT,zb,Bool.false_eq_true,hc,Tr.rN _ hn0]
 by_cases h:n / 2 ^ (w - 1) % 2=1
 ·simp only [h,decide_true,zC,zb,hx,ht1,Tr.rT,tst,if_true]
 ·simp only [h,decide_false,zc,zb,hm,ht1,Tr.rT,tst,if_false]
theorem tl1_loop (w p n:Nat) (hw:w=8\/w=16) (hp:p<4294967296) (hn:n<4294967296) (A B:List Int) :
  loopO (fun (d:Int×Int×(Int×Int×Bool)×List Int×List Int)=>(LQ.table.l1 d.1 d.2.1 d.2.2.1 d.2.2.2.1 d.2.2.2.2).run) ((n:Int),(0:Int),((w:Int),(p:Int),false),A,B)=some (((itN (tst w p) 8 n:Nat):Int),((w:Int),(p:Int),false),A,B):=by
 refine loopO_steps (fun k=>(((itN (tst w p) k n:Nat):Int),(k:Int),((w:Int),(p:Int),false),A,B)) 8 (fun k hk=>?_) ?_
 ·exact tl1_step w p _ k hw hp (itN_lt w p n hp hn k) hk A B
 ·show (LQ.table.l1 _ ((8:Nat):Int) _ A B).run=_
  unfold LQ.table.l1
  rw [Tr.rR,show decide (((8:Nat):Int)<8)=false from by decide]
  rfl
theorem tl0_step (w p t:Nat) (hw:w=8\/w=16) (hp:p<4294967296) (ht:t<256) (A B:List Int) :
  (LQ.table.l0 (t:Int) ((w:Int),(p:Int),false) A B).run=some (.inl (((t+1:Nat):Int),((w:Int),(p:Int),false),A,B.set t ((tabN w p t:Nat):Int))):=by
 have hw1:w64 ((w:Int) - 8)=((w - 8:Nat):Int):=by
  rw [w64_id (by omega)];omega
 have hpw:p2 (((w - 8:Nat):Int)) 32=((2 ^ (w - 8):Nat):Int):=p2_nat' _ _ (by omega)
 have hp8:2 ^ (w - 8)<=256:=by rcases hw with rfl|rfl<;>decide
 have hlt:t*2 ^ (w - 8)<4294967296:=Nat.lt_of_le_of_lt (Nat.mul_le_mul (Nat.le_of_lt ht) hp8) (by decide)
 have hs:IntKind.u32.wrap (IntKind.u32.wrap (t:Int)*p2 (w64 ((w:Int) - 8)) 32)=((t*2 ^ (w - 8):Nat):Int):=by
  rw [wr32 t (by omega),hw1,hpw,←Int.natCast_mul,wr32 _ hlt]
 have ht1:w64 ((t:Int)+1)=((t+1:Nat):Int):=by rw [w64_id (by omega)];omega
 have ht2:decide ((t:Int)<256)=true:=zT (by omega)
 have hn0:(0:Int)<=w64 ((w:Int) - 8):=by rw [hw1];omega
 have hn1:(0:Int)<=(t:Int)/\(t:Int)<256:=by omega
 have hl:=tl1_loop w p (t*2 ^ (w - 8)) hw hp hlt A B
 unfold LQ.table.l0
 rw [Tr.rR,ht2]
 simp only [zC,Bool.not_false,Tr.rB,Tr.rR,Tr.rT,zb,Tr.rN _ hn0,hs,hl,Tr.rN _ hn1,ht1,Int.toNat_natCast]
 rfl
def tabL (w p:Nat):List Int:=(List.range 256).map fun i=>((tabN w p i:Nat):Int)
theorem table_eq (w p:Nat) (hw:w=8\/w=16) (hp:p<4294967296):LQ.table ((w:Int),(p:Int),false,())=some (tabL w p):=by
 unfold LQ.table LQ.table.t
 rw [Tr.rB]
 have hl:loopO (fun (d:Int×(Int×Int×Bool)×List Int×List Int)=>(LQ.table.l0 d.1 d.2.1 d.2.2.1 d.2.2.2).run) ((0:Int),((w:Int),(p:Int),false),List.replicate 256 (0:Int),List.replicate 256 (0:Int))=some (List.replicate 256 (0:Int),tabL w p):=by
  refine loopO_steps (fun k=>((k:Int),((w:Int),(p:Int),false),List.replicate 256 (0:Int),(List.range k).map (fun i=>((tabN w p i:Nat):Int))++List.replicate (256 - k) 0)) 256 (fun k hk=>?_) ?_
  ·refine (tl0_step w p k hw hp hk _ _).trans ?_
   have:=set_fill (fun i=>((tabN w p i:Nat):Int)) (0:Int) k (256 - (k+1))
   rw [show 256 - (k+1)+1=256 - k by omega] at this
   rw [this]
  ·show (LQ.table.l0 ((256:Nat):Int) _ _ _).run=_
   unfold LQ.table.l0
   rw [Tr.rR,show decide (((256:Nat):Int)<256)=false from by decide]
   simp only [zc,Tr.rT,Nat.sub_self,List.replicate_zero,List.append_nil,tabL]
 refine (congrArg (fun o=>Option.bind o _) (show _=some (List.replicate 256 (0:Int),tabL w p) from hl)).trans ?_
 rfl
end
section
set_option maxRecDepth 100000
open Go.LM
theorem sNew8:LQ.sNew 8=some ((8:Int),(7:Int),false,tabL 8 7,(0:Int)):=by
 have ht:=table_eq 8 7 (.inl rfl) (by decide)
 have hs:LQ.specs=some ([]++[((8:Int),(8:Int),(7:Int),false,())]++[((16:Int),(16:Int),(32773:Int),false,())]++[((32:Int),(32:Int),(79764919:Int),false,())]++[((33:Int),(32:Int),(3988292384:Int),true,())]):=rfl
 have hf:mFindX (Ty.int IntKind.i64) ((Ty.int IntKind.i64).pr ((Ty.int IntKind.i64).pr (Ty.bool.pr Ty.un))) (8:Int) ([]++[((8:Int),(8:Int),(7:Int),false,())]++[((16:Int),(16:Int),(32773:Int),false,())]++[((32:Int),(32:Int),(79764919:Int),false,())]++[((33:Int),(32:Int),(3988292384:Int),true,())]) (0:Nat)=some (0,((8:Int),(7:Int),false,())):=rfl
 unfold LQ.sNew LQ.sNew.t
 rw [Tr.rB,hs,zb,hf]
 simp only [Option.isSome_some,Bool.not_true,Option.elim_some,Tr.rR,zc,Tr.rB]
 refine (congrArg (fun o=>Option.bind o _) ht).trans ?_
 rfl
theorem sNew16:LQ.sNew 16=some ((16:Int),(32773:Int),false,tabL 16 32773,(0:Int)):=by
 have ht:=table_eq 16 32773 (.inr rfl) (by decide)
 have hs:LQ.specs=some ([]++[((8:Int),(8:Int),(7:Int),false,())]++[((16:Int),(16:Int),(32773:Int),false,())]++[((32:Int),(32:Int),(79764919:Int),false,())]++[((33:Int),(32:Int),(3988292384:Int),true,())]):=rfl
 have hf:mFindX (Ty.int IntKind.i64) ((Ty.int IntKind.i64).pr ((Ty.int IntKind.i64).pr (Ty.bool.pr Ty.un))) (16:Int) ([]++[((8:Int),(8:Int),(7:Int),false,())]++[((16:Int),(16:Int),(32773:Int),false,())]++[((32:Int),(32:Int),(79764919:Int),false,())]++[((33:Int),(32:Int),(3988292384:Int),true,())]) (0:Nat)=some (1,((16:Int),(32773:Int),false,())):=rfl
 unfold LQ.sNew LQ.sNew.t
 rw [Tr.rB,hs,zb,hf]
 simp only [Option.isSome_some,Bool.not_true,Option.elim_some,Tr.rR,zc,Tr.rB]
 refine (congrArg (fun o=>Option.bind o _) ht).trans ?_
 rfl
def crcI (w c:Nat) (b:UInt8):Nat:=(c / 2 ^ (w - 8) % 256) ^^^ b.toNat
def crcS (w p c:Nat) (b:UInt8):Nat:=(c*256 % 4294967296) ^^^ tabN w p (crcI w c b)
theorem xor8_lt {a b:Nat} (ha:a<256) (hb:b<256):a ^^^ b<256:=Nat.xor_lt_two_pow (n:=8) ha hb
theorem crcI_lt (w c:Nat) (b:UInt8):crcI w c b<256:=xor8_lt (Nat.mod_lt _ (by decide)) b.toNat_lt
theorem tabN_lt (w p i:Nat) (hw:w=8\/w=16) (hp:p<4294967296) (hi:i<256):tabN w p i<4294967296:=by
 refine itN_lt w p _ hp ?_ 8
 have hp8:2 ^ (w - 8)<=256:=by rcases hw with rfl|rfl<;>decide
 exact Nat.lt_of_le_of_lt (Nat.mul_le_mul (Nat.le_of_lt hi) hp8) (by decide)
theorem crcS_lt (w p c:Nat) (b:UInt8) (hw:w=8\/w=16) (hp:p<4294967296):crcS w p c b<4294967296:=
 xor32_lt _ _ (Nat.mod_lt _ (by decide)) (tabN_lt w p _ hw hp (crcI_lt w c b))
def crcF (w p:Nat) (t:List UInt8):Nat:=t.foldl (crcS w p) 0
theorem crcF_lt (w p:Nat) (hw:w=8\/w=16) (hp:p<4294967296):∀ (t:List UInt8) (c:Nat),c<4294967296->t.foldl (crcS w p) c<4294967296
 | [],c,h=>h
 |b::t,c,h=>crcF_lt w p hw hp t _ (crcS_lt w p c b hw hp)
theorem xor8_idx (a:Nat) (b:UInt8) (ha:a<256):Int.ofNat (UInt8.ofNat (bitsI BinOp.xor IntKind.u8 (Int.ofNat (UInt8.ofNat a).toNat) (Int.ofNat b.toNat) % (256:Int)).toNat).toNat=((a ^^^ b.toNat:Nat):Int):=by
 have hb:=b.toNat_lt
 have h1:(UInt8.ofNat a).toNat=a:=by simp;omega
 rw [h1]
 have h2:bitsI BinOp.xor IntKind.u8 (Int.ofNat a) (Int.ofNat b.toNat)=((a ^^^ b.toNat:Nat):Int):=by
  unfold bitsI
  rw [zN,zN,bv_nat,bv_nat]
  show (((BitVec.ofNat 8 a) ^^^ (BitVec.ofNat 8 b.toNat)).toNat:Int)=_
  rw [BitVec.toNat_xor,BitVec.toNat_ofNat,BitVec.toNat_ofNat,Nat.mod_eq_of_lt ha,Nat.mod_eq_of_lt hb]
 have h3:=xor8_lt ha hb
 rw [h2]
 have h4:((((a ^^^ b.toNat:Nat):Int)) % 256).toNat=a ^^^ b.toNat:=by omega
 rw [h4,zN]
 congr 1
theorem sAdd_step (w p c:Nat) (t:List UInt8) (k:Nat) (hw:w=8\/w=16) (hp:p<4294967296) (hc:c<4294967296) (hk:k<t.length) (hl:t.length<=4611686018427387904) :
  (LQ.sAdd.l0 t (k:Int) (w:Int) (p:Int) false (tabL w p) (c:Int)).run=some (.inl (((k+1:Nat):Int),(w:Int),(p:Int),false,tabL w p,((crcS w p c (t.getD k 0):Nat):Int))):=by
 have ht1:w64 ((k:Int)+1)=((k+1:Nat):Int):=by rw [w64_id (by omega)];omega
 have ht2:decide ((k:Int)<Int.ofNat t.length)=true:=zT (by simp only [zN];omega)
 have hw1:w64 ((w:Int) - 8)=((w - 8:Nat):Int):=by rw [w64_id (by omega)];omega
 have hn0:(0:Int)<=((w - 8:Nat):Int):=by omega
 have hpw:p2 (((w - 8:Nat):Int)) 32=((2 ^ (w - 8):Nat):Int):=p2_nat' _ _ (by omega)
 have hn1:(0:Int)<=(k:Int)/\(k:Int)<Int.ofNat t.length:=by simp only [zN];omega
 have hm:((c:Int) / ((2 ^ (w - 8):Nat):Int) % 256).toNat=c / 2 ^ (w - 8) % 256:=by
  rw [←Int.natCast_ediv];omega
 have hi:=xor8_idx (c / 2 ^ (w - 8) % 256) (t.getD k 0) (Nat.mod_lt _ (by decide))
 have hil:=crcI_lt w c (t.getD k 0)
 have hn2:(0:Int)<=(((c / 2 ^ (w - 8) % 256) ^^^ (t.getD k 0).toNat:Nat):Int)/\(((c / 2 ^ (w - 8) % 256) ^^^ (t.getD k 0).toNat:Nat):Int)<256:=by
  unfold crcI at hil;omega
 have hg:(tabL w p).getD (crcI w c (t.getD k 0)) 0=((tabN w p (crcI w c (t.getD k 0)):Nat):Int):=by
  unfold tabL
  rw [getD_lt _ _ (by simpa using hil)]
  simp
 have hx:IntKind.u32.wrap (bitsI BinOp.xor IntKind.u32 (IntKind.u32.wrap ((c:Int)*256)) ((tabN w p (crcI w c (t.getD k 0)):Nat):Int))=((crcS w p c (t.getD k 0):Nat):Int):=by
  have h1:IntKind.u32.wrap ((c:Int)*256)=((c*256 % 4294967296:Nat):Int):=by rw [IntKind.wrap_u32];omega
  rw [h1,xor32 _ _ (Nat.mod_lt _ (by decide)) (tabN_lt w p _ hw hp hil)]
  exact wr32 _ (crcS_lt w p c _ hw hp)
 unfold LQ.sAdd.l0
 rw [Tr.rR,ht2]
 simp only [zC,zc,Tr.rB,Tr.rR,Tr.rN _ hn0,Tr.rN _ hn1,hw1,hpw,hm,Int.toNat_natCast,hi,Tr.rN _ hn2]
 have hg':(tabL w p).getD ((c / 2 ^ (w - 8) % 256) ^^^ (t.getD k 0).toNat) 0=((tabN w p (crcI w c (t.getD k 0)):Nat):Int):=hg
 simp only [hg',hx,Tr.rT,zb,ht1]
theorem foldl_take {α β:Type} (f:β->α->β) (z:α) (t:List α) (c:β) (k:Nat) (hk:k<t.length):(t.take (k+1)).foldl f c=f ((t.take k).foldl f c) (t.getD k z):=by
 rw [List.take_add_one,List.foldl_append,getD_lt _ _ hk,List.getElem?_eq_getElem hk]
 rfl
theorem sAdd_eq (w p:Nat) (t:List UInt8) (hw:w=8\/w=16) (hp:p<4294967296) (hl:t.length<=4611686018427387904) :
  LQ.sAdd t (w:Int) (p:Int) false (tabL w p) 0=some ((w:Int),(p:Int),false,tabL w p,((crcF w p t:Nat):Int)):=by
 unfold LQ.sAdd LQ.sAdd.t
 rw [Tr.rR,zc,Tr.rB]
 have hL:loopO (fun (d:Int×Int×Int×Bool×List Int×Int)=>(LQ.sAdd.l0 t d.1 d.2.1 d.2.2.1 d.2.2.2.1 d.2.2.2.2.1 d.2.2.2.2.2).run) ((0:Int),(w:Int),(p:Int),false,tabL w p,(0:Int))=some ((w:Int),(p:Int),false,tabL w p,((crcF w p t:Nat):Int)):=by
  refine loopO_steps (fun k=>((k:Int),(w:Int),(p:Int),false,tabL w p,(((t.take k).foldl (crcS w p) 0:Nat):Int))) t.length (fun k hk=>?_) ?_
  ·refine (sAdd_step w p _ t k hw hp (crcF_lt w p hw hp _ 0 (by decide)) hk hl).trans ?_
   rw [foldl_take _ 0 t 0 k hk]
  ·show (LQ.sAdd.l0 t ((t.length:Nat):Int) _ _ _ _ _).run=_
   unfold LQ.sAdd.l0
   rw [Tr.rR,show decide (((t.length:Nat):Int)<Int.ofNat t.length)=false from zF (by simp only [zN];omega)]
   simp only [zc,Tr.rT,List.take_length]
   rfl
 refine (congrArg (fun o=>Option.bind o _) hL).trans ?_
 rfl
def c8 (s:List UInt8):Nat:=crcF 8 7 s % 256
def c16 (s:List UInt8):Nat:=crcF 16 32773 s % 65536
theorem and_maskF (n m:Nat) (hn:n<18446744073709551616) (hm:m<=63):bitsI BinOp.and IntKind.i64 (n:Int) (((2 ^ m - 1:Nat):Nat):Int)=((n % 2 ^ m:Nat):Int):=by
 have h2:2 ^ m<=2 ^ 63:=Nat.pow_le_pow_right (by omega) hm
 have h3:(2:Nat) ^ 63=9223372036854775808:=by decide
 unfold bitsI
 rw [bv_nat,bv_nat]
 show (((BitVec.ofNat 64 n) &&& (BitVec.ofNat 64 (2 ^ m - 1))).toNat:Int)=_
 rw [BitVec.toNat_and,BitVec.toNat_ofNat,BitVec.toNat_ofNat,Nat.mod_eq_of_lt (show n<2 ^ 64 by omega),Nat.mod_eq_of_lt (show 2 ^ m - 1<2 ^ 64 by omega),Nat.and_two_pow_sub_one_eq_mod]
theorem sVal_eq (w p c:Nat) (tb:List Int) (hw:w=8\/w=16) (hc:c<4294967296):LQ.sVal (w:Int) (p:Int) false tb (c:Int)=some (((c % 2 ^ w:Nat):Int),(w:Int),(p:Int),false,tb,(c:Int)):=by
 have hn0:(0:Int)<=(w:Int):=by omega
 have hpw:w64 (1*p2 (w:Int) 64)=((2 ^ w:Nat):Int):=by
  rw [p2_nat' _ _ (by omega)]
  rcases hw with rfl|rfl<;>decide
 have h1:w64 (((2 ^ w:Nat):Int) - 1)=((2 ^ w - 1:Nat):Int):=by rcases hw with rfl|rfl<;>decide
 have h2:w64 (c:Int)=(c:Int):=w64_id (by omega)
 have h3:=and_maskF c w (by omega) (by omega)
 have h4:w64 ((c % 2 ^ w:Nat):Int)=((c % 2 ^ w:Nat):Int):=by
  have:=Nat.mod_le c (2 ^ w)
  exact w64_id (by omega)
 unfold LQ.sVal LQ.sVal.t
 simp only [Tr.rR,zc,Tr.rN _ hn0,hpw,h1,h2,h3,h4,Tr.rT]
theorem Crc8_eq (s:List UInt8) (hl:s.length<=4611686018427387904):LQ.Crc8 s=some ((c8 s:Nat):Int):=by
 have h1:=sAdd_eq 8 7 s (.inl rfl) (by decide) hl
 have h2:=sVal_eq 8 7 (crcF 8 7 s) (tabL 8 7) (.inl rfl) (crcF_lt 8 7 (.inl rfl) (by decide) s 0 (by decide))
 have h3:LQ.sof 8 s=some ((c8 s:Nat):Int):=by
  unfold LQ.sof LQ.sof.t
  rw [Tr.rB,sNew8,zb,Tr.rB]
  refine (congrArg (fun o=>Option.bind o _) h1).trans ?_
  rw [zb,Tr.rB]
  refine (congrArg (fun o=>Option.bind o _) h2).trans ?_
  rfl
 unfold LQ.Crc8 LQ.Crc8.t
 rw [Tr.rB,h3];rfl
theorem Crc16_eq (s:List UInt8) (hl:s.length<=4611686018427387904):LQ.Crc16 s=some ((c16 s:Nat):Int):=by
 have h1:=sAdd_eq 16 32773 s (.inr rfl) (by decide) hl
 have h2:=sVal_eq 16 32773 (crcF 16 32773 s) (tabL 16 32773) (.inr rfl) (crcF_lt 16 32773 (.inr rfl) (by decide) s 0 (by decide))
 have h3:LQ.sof 16 s=some ((c16 s:Nat):Int):=by
  unfold LQ.sof LQ.sof.t
  rw [Tr.rB,sNew16,zb,Tr.rB]
  refine (congrArg (fun o=>Option.bind o _) h1).trans ?_
  rw [zb,Tr.rB]
  refine (congrArg (fun o=>Option.bind o _) h2).trans ?_
  rfl
 unfold LQ.Crc16 LQ.Crc16.t
 rw [Tr.rB,h3];rfl
theorem c8_lt (s:List UInt8):c8 s<256:=Nat.mod_lt _ (by decide)
theorem c16_lt (s:List UInt8):c16 s<65536:=Nat.mod_lt _ (by decide)
end
section
set_option maxRecDepth 100000
open Go.LM
def leB (n w:Nat):List UInt8:=(List.range w).map fun i=>UInt8.ofNat (n / 256 ^ i)
def leV:List UInt8->Nat
 | []=>0
 |b::l=>b.toNat+256*leV l
def beV (s:List UInt8):Nat:=s.foldl (fun n b=>n*256+b.toNat) 0
theorem leB_len (n w:Nat):(leB n w).length=w:=by simp [leB]
theorem beV_rev:∀ (s:List UInt8),beV s.reverse=leV s
 | []=>rfl
 |b::l=>by
  have:=beV_rev l
  unfold beV at this ⊢
  rw [List.reverse_cons,List.foldl_append,this]
  simp only [List.foldl_cons,List.foldl_nil,leV]
  omega
theorem leV_lt:∀ (s:List UInt8),leV s<256 ^ s.length
 | []=>by decide
 |b::l=>by
  have h1:=leV_lt l
  have h2:=b.toNat_lt
  rw [leV,List.length_cons,Nat.pow_succ]
  omega
theorem beV_lt (s:List UInt8):beV s<256 ^ s.length:=by
 have:=leV_lt s.reverse
 rw [←beV_rev,List.reverse_reverse,List.length_reverse] at this
 exact this
theorem beV_take (s:List UInt8) (k:Nat) (h:k<s.length):beV (s.take (k+1))=beV (s.take k)*256+(s.getD k 0).toNat:=by
 unfold beV
 rw [List.take_succ_eq_append_getElem h,List.foldl_append]
 simp only [getD_lt _ _ h,List.foldl_cons,List.foldl_nil]
theorem byte_div (n m:Nat):(((n:Int) / (m:Int)) % 256).toNat=n / m % 256:=by
 rw [←Int.natCast_ediv];omega
theorem ofNat_mod (m:Nat):UInt8.ofNat (m % 256)=UInt8.ofNat m:=by
 apply UInt8.toNat_inj.1;rw [UInt8.toNat_ofNat',UInt8.toNat_ofNat'];omega
theorem pow256_le {k n:Nat} (h:k<=n):256 ^ k<=256 ^ n:=Nat.pow_le_pow_right (by decide) h
theorem p2_8 (k:Nat) (h:k<=8):p2 ((8*k:Nat):Int) 64=((256 ^ k:Nat):Int):=by
 unfold p2
 rw [Int.toNat_natCast,Nat.min_eq_left (by omega),show (2:Nat) ^ (8*k)=256 ^ k by rw [Nat.pow_mul]]
theorem Le_loop (n:Nat) (w:Nat) (hw:w<=8):loopO (fun (d:Int×List UInt8)=>(LQ.bLe.l0 n w d.1 d.2).run) ((0:Int),List.replicate w (0:UInt8))=some (leB n w):=by
 have:=loopO_steps (f:=fun (d:Int×List UInt8)=>(LQ.bLe.l0 n w d.1 d.2).run) (fun k=>((k:Int),(List.range k).map (fun i=>UInt8.ofNat (n / 256 ^ i))++List.replicate (w - k) (0:UInt8))) (r:=leB n w) w ?_ ?_
 ·simpa using this
 ·intro k hk
  simp only [LQ.bLe.l0]
  rw [Tr.rR,zT (by omega),zC,w64_id (x:=8*(k:Int)) (by omega),Tr.rN _ (by omega),Tr.rN _ (by simp only [zL,List.length_map,List.length_range,List.length_replicate,zN];omega),Tr.rT,w64_id (by omega)]
  rw [Int.toNat_natCast,show (8*(k:Int))=((8*k:Nat):Int) by omega,p2_8 k (by omega),show w - k=(w - (k+1))+1 by omega]
  rw [show (((n:Int) / ((256 ^ k:Nat):Int)) % 256).toNat=n / 256 ^ k % 256 from byte_div _ _]
  rw [show UInt8.ofNat (n / 256 ^ k % 256)=UInt8.ofNat (n / 256 ^ k) from ofNat_mod _]
  rw [set_fill (fun i=>UInt8.ofNat (n / 256 ^ i))]
  rfl
 ·simp only [LQ.bLe.l0]
  rw [Tr.rR,zF (by simp),zc,Tr.rT]
  simp [leB]
theorem bLe_eq (n:Nat) (w:Nat) (h1:1<=w) (hw:w<=8) (hn:n<9223372036854775808) (hf:w<8->n<256 ^ w):LQ.bLe n w=some (leB n w,0):=by
 unfold LQ.bLe LQ.bLe.t
 have e:(Tr.br (decide ((w:Int)<(8:Int))) (Tr.need ((0:Int)<=w64 ((8:Int)*(w:Int))) (Tr.ret (decide ((n:Int)>=w64 ((1:Int)*p2 (w64 ((8:Int)*(w:Int))) (64:Nat)))))) (Tr.ret false)).run=some false:=by
  rw [Tr.rR]
  by_cases h:w<8
  ·have hp:256 ^ w<=256 ^ 7:=pow256_le (by omega)
   have:=hf h
   rw [zT (by omega),zC,w64_id (by omega),Tr.rN _ (by omega),Tr.rT,show (8*(w:Int))=((8*w:Nat):Int) by omega,p2_8 w hw,w64_id (by omega)]
   rw [zF (by omega)]
  ·rw [zF (by omega),zc,Tr.rT]
 rw [Tr.rB,Tr.rR,zF (by omega),zc,Tr.rR,zF (by omega),zc,Tr.rR,zF (by omega),zc,e]
 simp only [zb,Tr.rR,zc]
 rw [Tr.rN _ (by omega),Tr.rB,Int.toNat_natCast,Le_loop n w hw]
 rfl
def swV (s:List UInt8) (k:Nat):List UInt8:=(List.range s.length).map fun i=>if i<k\/s.length<=i+k then s.getD (s.length - 1 - i) 0 else s.getD i 0
theorem swV_len (s:List UInt8) (k:Nat):(swV s k).length=s.length:=by simp [swV]
theorem swV_getD (s:List UInt8) (k i:Nat) (h:i<s.length):(swV s k).getD i 0=if i<k\/s.length<=i+k then s.getD (s.length - 1 - i) 0 else s.getD i 0:=by
 rw [getD_lt _ _ (by rw [swV_len];exact h)];simp [swV]
theorem swV_zero (s:List UInt8):swV s 0=s:=by
 apply List.ext_getElem (swV_len s 0)
 intro i h1 h2
 rw [←getD_lt _ 0 h1,swV_getD s 0 i h2,if_neg (by omega),getD_lt _ _ h2]
theorem swV_half (s:List UInt8):swV s (s.length / 2)=s.reverse:=by
 apply List.ext_getElem (by rw [swV_len,List.length_reverse])
 intro i h1 h2
 have hi:i<s.length:=by rwa [swV_len] at h1
 rw [←getD_lt _ 0 h1,swV_getD s _ i hi,List.getElem_reverse]
 by_cases h:i<s.length / 2\/s.length<=i+s.length / 2
 ·rw [if_pos h,getD_lt _ _ (show s.length - 1 - i<s.length by omega)]
 ·rw [if_neg h,getD_lt _ _ hi]
  congr 1;omega
theorem swV_step (s:List UInt8) (k:Nat) (hk:k<s.length / 2):((swV s k).set k ((swV s k).getD (s.length - 1 - k) 0)).set (s.length - 1 - k) ((swV s k).getD k 0)=swV s (k+1):=by
 rw [swV_getD s k _ (by omega),if_neg (by omega),swV_getD s k k (by omega),if_neg (by omega)]
 apply List.ext_getElem (by simp [swV_len])
 intro i h1 h2
 have hi:i<s.length:=by rwa [swV_len] at h2
 rw [List.getElem_set,List.getElem_set]
 conv=>rhs;rw [←getD_lt _ 0 h2]
 rw [swV_getD s _ i hi]
 by_cases e1:s.length - 1 - k=i
 ·rw [if_pos e1,if_pos (by omega),show s.length - 1 - i=k by omega]
 ·rw [if_neg e1]
  by_cases e2:k=i
  ·subst e2
   rw [if_pos rfl,if_pos (by omega)]
  ·rw [if_neg e2,←getD_lt _ 0 (by rw [swV_len];exact hi),swV_getD s k i hi]
   by_cases e3:i<k\/s.length<=i+k
   ·rw [if_pos e3,if_pos (by omega)]
   ·rw [if_neg e3,if_neg (by omega)]
theorem or_split_u (a b i:Nat) (hb:b<2 ^ i) (h:a*2 ^ i+b<18446744073709551616):bitsI BinOp.or IntKind.u64 ((a*2 ^ i:Nat):Int) (b:Int)=((a*2 ^ i+b:Nat):Int):=by
 unfold bitsI
 simp only [BitVec.ofInt_natCast,BitVec.toNat_or,BitVec.toNat_ofNat]
 rw [show IntKind.bits .u64=64 from rfl,Nat.mod_eq_of_lt (a:=a*2 ^ i) (by omega),Nat.mod_eq_of_lt (a:=b) (by omega)]
 have:=Nat.shiftLeft_add_eq_or_of_lt hb a
 rw [Nat.shiftLeft_eq] at this
 rw [this]
theorem turn_eq (s:List UInt8) (h:s.length<=140737488355328):LQ.bTurn s=some s.reverse:=by
 unfold LQ.bTurn LQ.bTurn.t
 rw [Tr.rB]
 have ht:w64 ((Int.ofNat s.length).tdiv 2)=((s.length / 2:Nat):Int):=by
  rw [Int.tdiv_eq_ediv_of_nonneg (by simp only [zN];omega),w64_id (by simp only [zN];omega)];simp only [zN];omega
 have:=loopO_steps (f:=fun (d:Int×List UInt8)=>(LQ.bTurn.l0 s d.1 d.2).run) (fun k=>((k:Int),swV s k)) (r:=s.reverse) (s.length / 2) ?_ ?_
 ·simp only [swV_zero] at this
  refine (congrArg (fun o=>Option.bind o _) this).trans ?_
  rfl
 ·intro k hk
  simp only [LQ.bTurn.l0]
  have e:w64 (w64 (Int.ofNat (swV s k).length - 1) - (k:Int))=((s.length - 1 - k:Nat):Int):=by
   rw [swV_len,w64_id (x:=Int.ofNat s.length - 1) (by simp only [zN];omega),w64_id (by simp only [zN];omega)]
   simp only [zN];omega
  rw [e,ht,Tr.rR,zT (by omega),zC,Tr.rN _ (by rw [swV_len];simp only [zN];omega),Tr.rN _ (by rw [swV_len];simp only [zN];omega),Tr.rN _ (by rw [swV_len];simp only [zN];omega),Tr.rN _ (by rw [List.length_set,swV_len];simp only [zN];omega),Tr.rT,Int.toNat_natCast,Int.toNat_natCast,w64_id (by omega),swV_step s k hk]
  rfl
 ·simp only [LQ.bTurn.l0]
  rw [ht,Tr.rR,zF (by omega),zc,Tr.rT,swV_half]
theorem bFromBe_eq (s:List UInt8) (h:s.length<8):LQ.bFromBe s=some ((beV s:Nat):Int):=by
 unfold LQ.bFromBe LQ.bFromBe.t
 have hb:∀ k<s.length,beV (s.take k)<256 ^ 6:=fun k hk=>Nat.lt_of_lt_of_le (beV_lt _) (pow256_le (by simp;omega))
 have hs:beV s<256 ^ 7:=Nat.lt_of_lt_of_le (beV_lt _) (pow256_le (by omega))
 rw [Tr.rR,zF (by simp only [zN];omega),zc,Tr.rB]
 have:=loopO_steps (f:=fun (d:Int×Int)=>(LQ.bFromBe.l0 s d.1 d.2).run) (fun k=>(((beV (s.take k):Nat):Int),(k:Int))) (r:=((beV s:Nat):Int)) s.length ?_ ?_
 ·have e0:beV (s.take 0)=0:=rfl
  simp only [e0] at this
  refine (congrArg (fun o=>Option.bind o _) this).trans ?_
  rw [zb,Tr.rR,zF (by omega),zc,Tr.rT,w64_id (by omega)]
 ·intro k hk
  simp only [LQ.bFromBe.l0]
  have h1:=hb k hk
  have h2:=(s.getD k 0).toNat_lt
  rw [Tr.rR,zT (by simp only [zN];omega),zC,Tr.rN _ (by simp only [zN];omega),Tr.rT,w64_id (x:=(k:Int)+1) (by omega),Int.toNat_natCast]
  simp only [zN]
  rw [u64_id (x:=((s.getD k 0).toNat:Int)) (by omega),u64_id (x:=((beV (s.take k):Nat):Int)*256) (by omega),show ((beV (s.take k):Nat):Int)*256=((beV (s.take k)*2 ^ 8:Nat):Int) by omega,or_split_u _ _ 8 (by omega) (by omega),u64_id (by omega),beV_take s k hk]
  rfl
 ·simp only [LQ.bFromBe.l0]
  rw [Tr.rR,zF (by simp only [zN];omega),zc,Tr.rT,List.take_length]
theorem leV_leB (N B:Nat) (h:N<256 ^ B):leV (leB N B)=N:=by
 have:∀ (B N:Nat),leV (leB N B)=N % 256 ^ B:=by
  intro B
  induction B with
  |zero=>intro N;simp [leB,leV,Nat.mod_one]
  |succ B ih=>
   intro N
   have e:leB N (B+1)=UInt8.ofNat N::leB (N / 256) B:=by
    unfold leB
    rw [List.range_succ_eq_map,List.map_cons,List.map_map]
    simp only [Nat.pow_zero,Nat.div_one]
    congr 1
    apply List.map_congr_left
    intro i _
    simp only [Function.comp_apply]
    rw [Nat.pow_succ',Nat.div_div_eq_div_mul]
   have e3:256 ^ (B+1)=256*256 ^ B:=Nat.pow_succ'
   rw [e,leV,ih,e3,Nat.mod_mul,UInt8.toNat_ofNat']
 rw [this,Nat.mod_eq_of_lt h]
theorem leB_leV:∀ (t:List UInt8),leB (leV t) t.length=t:=by
 intro t
 induction t with
 |nil=>rfl
 |cons b l ih=>
  have hb:=b.toNat_lt
  rw [List.length_cons]
  have e:leB (leV (b::l)) (l.length+1)=UInt8.ofNat (leV (b::l))::leB (leV (b::l) / 256) l.length:=by
   unfold leB
   rw [List.range_succ_eq_map,List.map_cons,List.map_map]
   simp only [Nat.pow_zero,Nat.div_one]
   congr 1
   apply List.map_congr_left
   intro i _
   simp only [Function.comp_apply]
   rw [Nat.pow_succ',Nat.div_div_eq_div_mul]
  rw [e,leV,show (b.toNat+256*leV l) / 256=leV l by omega,ih]
  congr 1
  apply UInt8.toNat_inj.1
  rw [UInt8.toNat_ofNat'];omega
theorem bBe_eq (n:Nat) (w:Nat) (h1:1<=w) (hw:w<=8) (hn:n<9223372036854775808) (hf:w<8->n<256 ^ w):LQ.bBe n w=some ((leB n w).reverse,0):=by
 unfold LQ.bBe LQ.bBe.t
 rw [Tr.rB,bLe_eq n w h1 hw hn hf,zb,Tr.rB]
 have:=turn_eq (leB n w) (by rw [leB_len];omega)
 refine (congrArg (fun o=>Option.bind o _) this).trans ?_
 rfl
theorem beV_be (n w:Nat) (h:n<256 ^ w):beV (leB n w).reverse=n:=by
 rw [beV_rev,leV_leB n w h]
end
section
set_option maxRecDepth 100000
open Go.LM
theorem u8_every {P:UInt8->Prop} (h:∀ i:Fin 256,P (UInt8.ofNat i.1)) (b:UInt8):P b:=by
 have:=h ⟨b.toNat,b.toNat_lt⟩
 simpa using this
def wideN (n:Nat):Nat:=if n<128 then 1 else if n<2048 then 2 else if n<65536 then 3 else if n<2097152 then 4 else if n<67108864 then 5 else if n<2147483648 then 6 else 7
theorem wide_l0 (n k:Nat) (hk:2<=k/\k<=8):(LQ.bWide.l0 (n:Int) (k:Int)).run=some (bif (decide (n / 2 ^ (5*k+1)=0)) then .inr (k:Int) else .inl ((k+1:Nat):Int)):=by
 have h1:w64 (w64 (5*(k:Int))+1)=((5*k+1:Nat):Int):=by
  rw [w64_id (x:=5*(k:Int)) (by omega),w64_id (by omega)];omega
 have h0:(0:Int)<=((5*k+1:Nat):Int):=by omega
 have h2:p2 ((5*k+1:Nat):Int) 64=((2 ^ (5*k+1):Nat):Int):=p2_nat' _ _ (by omega)
 have h3:w64 ((k:Int)+1)=((k+1:Nat):Int):=by rw [w64_id (by omega)];omega
 unfold LQ.bWide.l0
 rw [h1,Tr.rN _ h0,h2,Tr.rR,←Int.natCast_ediv,h3]
 by_cases h:n / 2 ^ (5*k+1)=0
 ·rw [h];rfl
 ·have e1:(((n / 2 ^ (5*k+1):Nat):Int) != 0)=true:=by
   rw [bne_iff_ne];omega
  rw [e1,zF h];rfl
theorem wide_in (n k:Nat) (hk:2<=k/\k<=8) (h:2 ^ (5*k+1)<=n):(LQ.bWide.l0 (n:Int) (k:Int)).run=some (.inl ((k+1:Nat):Int)):=by
 rw [wide_l0 n k hk]
 have:¬ (n / 2 ^ (5*k+1)=0):=by
  have:=Nat.div_pos h (Nat.two_pow_pos _)
  omega
 rw [zF this];rfl
theorem wide_out (n k:Nat) (hk:2<=k/\k<=8) (h:n<2 ^ (5*k+1)):(LQ.bWide.l0 (n:Int) (k:Int)).run=some (.inr (k:Int)):=by
 rw [wide_l0 n k hk]
 rw [zT (Nat.div_eq_of_lt h)];rfl
theorem wide_loop (n:Nat) (h:128<=n/\n<68719476736):loopO (fun (d:Int)=>(LQ.bWide.l0 (n:Int) d).run) (2:Int)=some ((wideN n:Nat):Int):=by
 have hh:∀ k:Nat,2<=k/\k<=8->2 ^ (5*k+1)<=n->loopO (fun (d:Int)=>(LQ.bWide.l0 (n:Int) d).run) (k:Int)=loopO (fun (d:Int)=>(LQ.bWide.l0 (n:Int) d).run) ((k+1:Nat):Int):=fun k hk h=>loopO_next (wide_in n k hk h)
 have hd:∀ k:Nat,2<=k/\k<=8->n<2 ^ (5*k+1)->loopO (fun (d:Int)=>(LQ.bWide.l0 (n:Int) d).run) (k:Int)=some (k:Int):=fun k hk h=>loopO_done (wide_out n k hk h)
 have e2:(2:Nat) ^ (5*2+1)=2048:=by decide
 have e3:(2:Nat) ^ (5*3+1)=65536:=by decide
 have e4:(2:Nat) ^ (5*4+1)=2097152:=by decide
 have e5:(2:Nat) ^ (5*5+1)=67108864:=by decide
 have e6:(2:Nat) ^ (5*6+1)=2147483648:=by decide
 have e7:(2:Nat) ^ (5*7+1)=68719476736:=by decide
 unfold wideN
 rw [if_neg (by omega)]
 show loopO _ ((2:Nat):Int)=_
 split
 ·exact hd 2 (by omega) (by omega)
 ·rw [hh 2 (by omega) (by omega)]
  split
  ·exact hd 3 (by omega) (by omega)
  ·rw [hh 3 (by omega) (by omega)]
   split
   ·exact hd 4 (by omega) (by omega)
   ·rw [hh 4 (by omega) (by omega)]
    split
    ·exact hd 5 (by omega) (by omega)
    ·rw [hh 5 (by omega) (by omega)]
     split
     ·exact hd 6 (by omega) (by omega)
     ·rw [hh 6 (by omega) (by omega)]
      exact hd 7 (by omega) (by omega)
theorem bWide_eq (n:Nat) (h:n<68719476736):LQ.bWide (n:Int)=some ((wideN n:Nat):Int):=by
 unfold LQ.bWide LQ.bWide.t
 rw [Tr.rR]
 by_cases h1:n<128
 ·rw [zT (by omega)]
  unfold wideN
  rw [if_pos h1];rfl
 ·rw [zF (by omega),zc,Tr.rB]
  refine (congrArg (fun o=>Option.bind o _) (wide_loop n (by omega))).trans ?_
  rfl
def cbyte (n i:Nat):UInt8:=UInt8.ofNat (128+n / 64 ^ i % 64)
theorem cb_byte:∀ b:UInt8,UInt8.ofNat (bitsI BinOp.or IntKind.u8 (128:Int) (Int.ofNat (UInt8.ofNat (bitsI BinOp.and IntKind.u8 (Int.ofNat b.toNat) (63:Int) % (256:Int)).toNat).toNat) % (256:Int)).toNat=UInt8.ofNat (128+b.toNat % 64):=u8_every (by decide +kernel)
theorem p2_6 (i:Nat) (h:i<=10):p2 ((6*i:Nat):Int) 64=((64 ^ i:Nat):Int):=by
 rw [p2_nat' _ _ (by omega),Nat.pow_mul]
theorem cb_eq (n i:Nat) (hi:i<=10):UInt8.ofNat (bitsI BinOp.or IntKind.u8 (128:Int) (Int.ofNat (UInt8.ofNat (bitsI BinOp.and IntKind.u8 (Int.ofNat (UInt8.ofNat ((n:Int) / p2 (w64 (6*(i:Int))) 64 % 256).toNat).toNat) (63:Int) % (256:Int)).toNat).toNat) % (256:Int)).toNat=cbyte n i:=by
 have h1:w64 (6*(i:Int))=((6*i:Nat):Int):=by rw [w64_id (by omega)];omega
 rw [cb_byte,h1,p2_6 i hi,byte_div]
 unfold cbyte
 have:(UInt8.ofNat (n / 64 ^ i % 256)).toNat=n / 64 ^ i % 256:=by simp
 rw [this]
 congr 1
 omega
def lead (n k:Nat):UInt8:=UInt8.ofNat (256 - 2 ^ (8 - k)+n / 64 ^ (k - 1))
theorem lead_b:∀ k:Fin 8,2<=k.1->∀ v:Fin 32,v.1<2 ^ (7 - k.1)->UInt8.ofNat (bitsI BinOp.or IntKind.u8 (Int.ofNat (UInt8.ofNat (255*p2 (w64 (8 - (k.1:Int))) 8 % 256).toNat).toNat) (Int.ofNat (UInt8.ofNat v.1).toNat) % (256:Int)).toNat=UInt8.ofNat (256 - 2 ^ (8 - k.1)+v.1):=by decide +kernel
theorem wideN_bd (n:Nat) (h:n<68719476736):1<=wideN n/\wideN n<=7/\(wideN n=1->n<128)/\(2<=wideN n->128<=n/\n<2 ^ (5*wideN n+1)/\(n=128\/3<=wideN n->2 ^ (5*(wideN n - 1)+1)<=n\/wideN n=2)):=by
 unfold wideN
 repeat' split
 all_goals (refine ⟨by omega,by omega,by omega,fun _=>⟨by omega,by omega,fun _=>by omega⟩⟩)
theorem lead_lt (n k:Nat) (hk:2<=k/\k<=7) (h:n<2 ^ (5*k+1)):n / 64 ^ (k - 1)<2 ^ (7 - k):=by
 rw [Nat.div_lt_iff_lt_mul (Nat.pow_pos (by decide))]
 have:2 ^ (7 - k)*64 ^ (k - 1)=2 ^ (5*k+1):=by
  rw [show (64:Nat)=2 ^ 6 from rfl,←Nat.pow_mul,←Nat.pow_add]
  congr 1;omega
 omega
theorem lead_eq (n k:Nat) (hk:2<=k/\k<=7) (h:n<2 ^ (5*k+1)):UInt8.ofNat (bitsI BinOp.or IntKind.u8 (Int.ofNat (UInt8.ofNat (255*p2 (w64 (8 - (k:Int))) 8 % 256).toNat).toNat) (Int.ofNat (UInt8.ofNat ((n:Int) / p2 (w64 (6*w64 ((k:Int) - 1))) 64 % 256).toNat).toNat) % (256:Int)).toNat=lead n k:=by
 have h0:w64 ((k:Int) - 1)=((k - 1:Nat):Int):=by rw [w64_id (by omega)];omega
 have h1:w64 (6*((k - 1:Nat):Int))=((6*(k - 1):Nat):Int):=by rw [w64_id (by omega)];omega
 have hv:=lead_lt n k hk h
 have h32:2 ^ (7 - k)<=32:=by
  have:2 ^ (7 - k)<=2 ^ 5:=Nat.pow_le_pow_right (by decide) (by omega)
  omega
 rw [h0,h1,p2_6 _ (by omega),byte_div,Nat.mod_eq_of_lt (by omega)]
 exact lead_b ⟨k,by omega⟩ hk.1 ⟨n / 64 ^ (k - 1),by omega⟩ hv
def codB (n:Nat):List UInt8:=if n<128 then [UInt8.ofNat n] else lead n (wideN n)::(List.range (wideN n - 1)).map fun q=>cbyte n (wideN n - 2 - q)
theorem codB_len (n:Nat) (h:n<68719476736):(codB n).length=wideN n:=by
 obtain ⟨w1,w7,wA,wB⟩:=wideN_bd n h
 unfold codB
 split
 ·unfold wideN
  rw [if_pos (by assumption)];rfl
 ·simp;omega
theorem cod_step (n i:Nat) (row:List UInt8) (hi:i<=10) (hr:row.length<=100):(LQ.Coded.l0 (n:Int) (i:Int) row).run=some (.inl ((i:Int) - 1,row++[cbyte n i])):=by
 have h1:decide ((i:Int)>=0)=true:=zT (by omega)
 have h2:(0:Int)<=w64 (6*(i:Int)):=by rw [w64_id (by omega)];omega
 have h3:w64 ((i:Int) - 1)=(i:Int) - 1:=w64_id (by omega)
 unfold LQ.Coded.l0
 rw [Tr.rR,h1,zC,Tr.rN _ h2,cb_eq n i hi,Tr.rN _ (by simp;omega),h3]
 rfl
theorem Coded_eq (n:Nat) (h:n<68719476736):LQ.Coded (n:Int)=some (codB n,0):=by
 obtain ⟨w1,w7,wA,wB⟩:=wideN_bd n h
 unfold LQ.Coded LQ.Coded.t
 have d1:decide ((n:Int)<0)=false:=zF (by omega)
 have d2:decide ((n:Int)>=68719476736)=false:=zF (by omega)
 rw [Tr.rB,Tr.rR,d1,zc,Tr.rT,d2,zb,Tr.rR,zc,Tr.rB,bWide_eq n h,zb,Tr.rR]
 by_cases hw:wideN n=1
 ·have hn:=wA hw
  rw [hw,show (((1:Nat):Int) == 1)=true from rfl,zC,Tr.rT]
  unfold codB
  rw [if_pos hn]
  have:((n:Int) % 256).toNat=n:=by omega
  rw [this];rfl
 ·have hk:2<=wideN n:=by omega
  obtain ⟨b1,b2,_⟩:=wB hk
  have e1:(((wideN n:Nat):Int) == 1)=false:=by
   rw [beq_eq_false_iff_ne];omega
  have n1:(0:Int)<=w64 (8 - ((wideN n:Nat):Int)):=by rw [w64_id (by omega)];omega
  have n2:(0:Int)<=w64 (6*w64 (((wideN n:Nat):Int) - 1)):=by rw [w64_id (x:=((wideN n:Nat):Int) - 1) (by omega),w64_id (by omega)];omega
  rw [e1,zc,Tr.rN _ n1,Tr.rN _ n2,Tr.rB,lead_eq n _ ⟨hk,w7⟩ b2]
  have e2:w64 (((wideN n:Nat):Int) - 2)=((wideN n - 2:Nat):Int):=by rw [w64_id (by omega)];omega
  rw [e2]
  have hL:loopO (fun (d:Int×List UInt8)=>(LQ.Coded.l0 (n:Int) d.1 d.2).run) (((wideN n - 2:Nat):Int),[lead n (wideN n)])=some (codB n):=by
   have:=loopO_steps (f:=fun (d:Int×List UInt8)=>(LQ.Coded.l0 (n:Int) d.1 d.2).run) (r:=codB n) (fun j=>(((wideN n:Nat):Int) - 2 - (j:Int),lead n (wideN n)::(List.range j).map fun q=>cbyte n (wideN n - 2 - q))) (wideN n - 1) (fun j hj=>?_) ?_
   ·simp only [List.range_zero,List.map_nil] at this
    rw [show ((wideN n - 2:Nat):Int)=((wideN n:Nat):Int) - 2 - ((0:Nat):Int) by omega]
    exact this
   ·have:=cod_step n (wideN n - 2 - j) (lead n (wideN n)::(List.range j).map fun q=>cbyte n (wideN n - 2 - q)) (by omega) (by simp;omega)
    rw [show ((wideN n - 2 - j:Nat):Int)=((wideN n:Nat):Int) - 2 - (j:Int) by omega] at this
    refine this.trans ?_
    rw [List.range_succ,List.map_append]
    congr 3
    omega
   ·show (LQ.Coded.l0 (n:Int) (((wideN n:Nat):Int) - 2 - ((wideN n - 1:Nat):Int)) _).run=_
    unfold LQ.Coded.l0
    rw [Tr.rR,show decide (((wideN n:Nat):Int) - 2 - ((wideN n - 1:Nat):Int)>=0)=false from zF (by omega),zc,Tr.rT]
    unfold codB
    rw [if_neg (by omega)]
  refine (congrArg (fun o=>Option.bind o _) (show _=some (codB n) from hL)).trans ?_
  rfl
end
section
set_option maxRecDepth 100000
open Go.LM
def onesN (b:Nat):Nat:=if b<128 then 0 else if b<192 then 1 else if b<224 then 2 else if b<240 then 3 else if b<248 then 4 else if b<252 then 5 else if b<254 then 6 else if b<255 then 7 else 8
def len8T:List UInt8:=[(0:UInt8),(1:UInt8),(2:UInt8),(2:UInt8),(3:UInt8),(3:UInt8),(3:UInt8),(3:UInt8),(4:UInt8),(4:UInt8),(4:UInt8),(4:UInt8),(4:UInt8),(4:UInt8),(4:UInt8),(4:UInt8),(5:UInt8),(5:UInt8),(5:UInt8),(5:UInt8),(5:UInt8),(5:UInt8),(5:UInt8),(5:UInt8),(5:UInt8),(5:UInt8),(5:UInt8),(5:UInt8),(5:UInt8),(5:UInt8),(5:UInt8),(5:UInt8),(6:UInt8),(6:UInt8),(6:UInt8),(6:UInt8),(6:UInt8),(6:UInt8),(6:UInt8),(6:UInt8),(6:UInt8),(6:UInt8),(6:UInt8),(6:UInt8),(6:UInt8),(6:UInt8),(6:UInt8),(6:UInt8),(6:UInt8),(6:UInt8),(6:UInt8),(6:UInt8),(6:UInt8),(6:UInt8),(6:UInt8),(6:UInt8),(6:UInt8),(6:UInt8),(6:UInt8),(6:UInt8),(6:UInt8),(6:UInt8),(6:UInt8),(6:UInt8),(7:UInt8),(7:UInt8),(7:UInt8),(7:UInt8),(7:UInt8),(7:UInt8),(7:UInt8),(7:UInt8),(7:UInt8),(7:UInt8),(7:UInt8),(7:UInt8),(7:UInt8),(7:UInt8),(7:UInt8),(7:UInt8),(7:UInt8),(7:UInt8),(7:UInt8),(7:UInt8),(7:UInt8),(7:UInt8),(7:UInt8),(7:UInt8),(7:UInt8),(7:UInt8),(7:UInt8),(7:UInt8),(7:UInt8),(7:UInt8),(7:UInt8),(7:UInt8),(7:UInt8),(7:UInt8),(7:UInt8),(7:UInt8),(7:UInt8),(7:UInt8),(7:UInt8),(7:UInt8),(7:UInt8),(7:UInt8),(7:UInt8),(7:UInt8),(7:UInt8),(7:UInt8),(7:UInt8),(7:UInt8),(7:UInt8),(7:UInt8),(7:UInt8),(7:UInt8),(7:UInt8),(7:UInt8),(7:UInt8),(7:UInt8),(7:UInt8),(7:UInt8),(7:UInt8),(7:UInt8),(7:UInt8),(7:UInt8),(7:UInt8),(7:UInt8),(8:UInt8),(8:UInt8),(8:UInt8),(8:UInt8),(8:UInt8),(8:UInt8),(8:UInt8),(8:UInt8),(8:UInt8),(8:UInt8),(8:UInt8),(8:UInt8),(8:UInt8),(8:UInt8),(8:UInt8),(8:UInt8),(8:UInt8),(8:UInt8),(8:UInt8),(8:UInt8),(8:UInt8),(8:UInt8),(8:UInt8),(8:UInt8),(8:UInt8),(8:UInt8),(8:UInt8),(8:UInt8),(8:UInt8),(8:UInt8),(8:UInt8),(8:UInt8),(8:UInt8),(8:UInt8),(8:UInt8),(8:UInt8),(8:UInt8),(8:UInt8),(8:UInt8),(8:UInt8),(8:UInt8),(8:UInt8),(8:UInt8),(8:UInt8),(8:UInt8),(8:UInt8),(8:UInt8),(8:UInt8),(8:UInt8),(8:UInt8),(8:UInt8),(8:UInt8),(8:UInt8),(8:UInt8),(8:UInt8),(8:UInt8),(8:UInt8),(8:UInt8),(8:UInt8),(8:UInt8),(8:UInt8),(8:UInt8),(8:UInt8),(8:UInt8),(8:UInt8),(8:UInt8),(8:UInt8),(8:UInt8),(8:UInt8),(8:UInt8),(8:UInt8),(8:UInt8),(8:UInt8),(8:UInt8),(8:UInt8),(8:UInt8),(8:UInt8),(8:UInt8),(8:UInt8),(8:UInt8),(8:UInt8),(8:UInt8),(8:UInt8),(8:UInt8),(8:UInt8),(8:UInt8),(8:UInt8),(8:UInt8),(8:UInt8),(8:UInt8),(8:UInt8),(8:UInt8),(8:UInt8),(8:UInt8),(8:UInt8),(8:UInt8),(8:UInt8),(8:UInt8),(8:UInt8),(8:UInt8),(8:UInt8),(8:UInt8),(8:UInt8),(8:UInt8),(8:UInt8),(8:UInt8),(8:UInt8),(8:UInt8),(8:UInt8),(8:UInt8),(8:UInt8),(8:UInt8),(8:UInt8),(8:UInt8),(8:UInt8),(8:UInt8),(8:UInt8),(8:UInt8),(8:UInt8),(8:UInt8),(8:UInt8),(8:UInt8),(8:UInt8),(8:UInt8),(8:UInt8),(8:UInt8),(8:UInt8),(8:UInt8)]
theorem Len8_eq (x:UInt8):LQ.Len8 x=some (w64 (Int.ofNat (len8T.getD (Int.ofNat x.toNat).toNat 0).toNat)):=by
 have h:(0:Int)<=Int.ofNat x.toNat/\Int.ofNat x.toNat<256:=by
  have:=x.toNat_lt
  simp only [zN];omega
 unfold LQ.Len8 LQ.Len8.t
 rw [Tr.rN _ h];rfl
theorem lz8_num:∀ b:UInt8,w64 (8 - w64 (Int.ofNat (len8T.getD (Int.ofNat (UInt8.ofNat (bitsI BinOp.xor IntKind.u8 (255:Int) (Int.ofNat b.toNat) % (256:Int)).toNat).toNat).toNat 0).toNat))=((onesN b.toNat:Nat):Int):=u8_every (by decide +kernel)
theorem LZ8_eq (b:UInt8):LQ.LZ8 (UInt8.ofNat (bitsI BinOp.xor IntKind.u8 (255:Int) (Int.ofNat b.toNat) % (256:Int)).toNat)=some ((onesN b.toNat:Nat):Int):=by
 unfold LQ.LZ8 LQ.LZ8.t
 rw [Tr.rB,Len8_eq,zb,Tr.rT,lz8_num]
theorem first_num:∀ (b:UInt8),onesN b.toNat<=8/\w64 (bitsI BinOp.and IntKind.i64 (w64 (Int.ofNat b.toNat)) (127 / p2 ((onesN b.toNat:Nat):Int) 64))=(((b.toNat % 2 ^ (7 - onesN b.toNat):Nat)):Int):=u8_every (by decide +kernel)
theorem quart_num:∀ (b:UInt8),(Int.ofNat (UInt8.ofNat (Int.ofNat b.toNat / (64:Int) % (256:Int)).toNat).toNat != (2:Int))=decide (b.toNat / 64≠2):=u8_every (by decide +kernel)
theorem six_num:∀ (b:UInt8),w64 (Int.ofNat (UInt8.ofNat (bitsI BinOp.and IntKind.u8 (Int.ofNat b.toNat) (63:Int) % (256:Int)).toNat).toNat)=((b.toNat % 64:Nat):Int):=u8_every (by decide +kernel)
theorem or_six (a b:Nat) (hb:b<64) (ha:a<68719476736):w64 (bitsI BinOp.or IntKind.i64 (w64 ((a:Int)*64)) (b:Int))=((a*64+b:Nat):Int):=by
 rw [w64_id (x:=(a:Int)*64) (by omega),show (a:Int)*64=((a*64:Nat):Int) by omega]
 unfold bitsI
 rw [bv_nat,bv_nat]
 show w64 (((BitVec.ofNat 64 (a*64)) ||| (BitVec.ofNat 64 b)).toNat:Int)=_
 rw [BitVec.toNat_or,BitVec.toNat_ofNat,BitVec.toNat_ofNat,Nat.mod_eq_of_lt (show a*64<2 ^ 64 by omega),Nat.mod_eq_of_lt (show b<2 ^ 64 by omega)]
 have:a*64 ||| b=a*64+b:=by
  rw [show a*64=64*a by omega]
  exact (Nat.two_pow_add_eq_or_of_lt (i:=6) hb a).symm
 rw [this,w64_id (by omega)]
def uncL:Nat->List UInt8->Nat->(Int×Int×Int)⊕Nat
 |0,_,n=>.inr n
 |_+1,[],_=>.inl (0,0,10)
 |m+1,b::l,n=>if b.toNat / 64≠2 then .inl (0,0,2) else uncL m l (n*64+b.toNat % 64)
theorem uncL_cons (m:Nat) (b:UInt8) (l:List UInt8) (n:Nat):uncL (m+1) (b::l) n=if b.toNat / 64≠2 then .inl (0,0,2) else uncL m l (n*64+b.toNat % 64):=rfl
theorem uncL_bd:∀ (m:Nat) (l:List UInt8) (n B r:Nat),n<B->uncL m l n=.inr r->r<B*64 ^ m
 |0,l,n,B,r,h,e=>by
  unfold uncL at e;cases e;simpa using h
 |m+1,[],n,B,r,h,e=>by unfold uncL at e;cases e
 |m+1,b::l,n,B,r,h,e=>by
  unfold uncL at e
  split at e
  ·cases e
  ·have:=uncL_bd m l _ (B*64) r (by omega) e
   rw [Nat.pow_succ,Nat.mul_comm (64 ^ m),←Nat.mul_assoc];exact this
def sumI (x:(Int×Int×Int)⊕Nat):(Int×Int×Int)⊕Int:=match x with | .inl e=>.inl e | .inr n=>.inr (n:Int)
theorem unc_loop (s:List UInt8) (r:Nat) (hr:2<=r/\r<=7) (hl:s.length<=4611686018427387904):∀ (m t n:Nat),t+m=r - 1->n<2 ^ (7 - r)*64 ^ t->t+1<=s.length ->
  loopO (fun (d:Int×Int)=>(LQ.Uncoded.l0 s (r:Int) d.1 d.2).run) ((n:Int),(t:Int))=some (sumI (uncL m (s.drop (t+1)) n)):=by
 intro m
 induction m with
 |zero=>
  intro t n ht hn hts
  refine loopO_done ?_
  show (LQ.Uncoded.l0 s (r:Int) (n:Int) (t:Int)).run=_
  unfold LQ.Uncoded.l0
  rw [w64_id (x:=(r:Int) - 1) (by omega),Tr.rR,zF (by omega)]
  rfl
 |succ m ih=>
  intro t n ht hn hts
  have h1:w64 ((t:Int)+1)=((t+1:Nat):Int):=by rw [w64_id (by omega)];omega
  have hpow:2 ^ (7 - r)*64 ^ t<=68719476736:=by
   rw [show (64:Nat)=2 ^ 6 from rfl,←Nat.pow_mul,←Nat.pow_add]
   exact Nat.le_trans (Nat.pow_le_pow_right (by decide) (show 7 - r+6*t<=36 by omega)) (by decide)
  have hd:(decide ((t:Int)<(r:Int) - 1))=true:=zT (by omega)
  by_cases he:t+1<s.length
  ·have hdrop:s.drop (t+1)=s.getD (t+1) 0::s.drop (t+1+1):=by
    rw [getD_lt _ _ he];exact List.drop_eq_getElem_cons he
   have hne:(((t+1:Nat):Int) == Int.ofNat s.length)=false:=by rw [beq_eq_false_iff_ne];simp only [zN];omega
   have hnd:(0:Int)<=((t+1:Nat):Int)/\((t+1:Nat):Int)<Int.ofNat s.length:=by simp only [zN];omega
   rw [hdrop]
   by_cases hq:(s.getD (t+1) 0).toNat / 64=2
   ·have hstep:(LQ.Uncoded.l0 s (r:Int) (n:Int) (t:Int)).run=some (.inl (((n*64+(s.getD (t+1) 0).toNat % 64:Nat):Int),((t+1:Nat):Int))):=by
     unfold LQ.Uncoded.l0
     rw [w64_id (x:=(r:Int) - 1) (by omega),Tr.rR,hd,zC,Tr.rR,h1,hne,zc,Tr.rN _ hnd,Tr.rR,Int.toNat_natCast,quart_num,zF (fun h=>h hq),zc,six_num,or_six n _ (Nat.mod_lt _ (by decide)) (by omega)]
     rfl
    rw [loopO_next hstep,ih (t+1) _ (by omega) (by
     rw [Nat.pow_succ,←Nat.mul_assoc]
     have:=Nat.mod_lt (s.getD (t+1) 0).toNat (show 0<64 by decide)
     omega) (by omega)]
    rw [uncL_cons,if_neg (fun h=>h hq)]
   ·have hstep:(LQ.Uncoded.l0 s (r:Int) (n:Int) (t:Int)).run=some (.inr (.inl (0,0,2))):=by
     unfold LQ.Uncoded.l0
     rw [w64_id (x:=(r:Int) - 1) (by omega),Tr.rR,hd,zC,Tr.rR,h1,hne,zc,Tr.rN _ hnd,Tr.rR,Int.toNat_natCast,quart_num,zT hq]
     rfl
    rw [loopO_done hstep]
    rw [uncL_cons,if_pos hq];rfl
  ·have hdrop:s.drop (t+1)=[]:=List.drop_eq_nil_of_le (by omega)
   have hne:(((t+1:Nat):Int) == Int.ofNat s.length)=true:=by rw [beq_iff_eq];simp only [zN];omega
   have hstep:(LQ.Uncoded.l0 s (r:Int) (n:Int) (t:Int)).run=some (.inr (.inl (0,0,10))):=by
    unfold LQ.Uncoded.l0
    rw [w64_id (x:=(r:Int) - 1) (by omega),Tr.rR,hd,zC,Tr.rR,h1,hne]
    rfl
   rw [loopO_done hstep,hdrop];rfl
def uncV:List UInt8->Int×Int×Int
 | []=>(0,0,10)
 |b::l=>if onesN b.toNat=0 then ((b.toNat:Int),1,0) else if onesN b.toNat=1\/onesN b.toNat=8 then (0,0,2) else
  match uncL (onesN b.toNat - 1) l (b.toNat % 2 ^ (7 - onesN b.toNat)) with
  |.inl e=>e
  |.inr n=>if wideN n=onesN b.toNat then ((n:Int),(onesN b.toNat:Int),0) else (0,0,2)
theorem uncV_cons (b:UInt8) (l:List UInt8):uncV (b::l)=if onesN b.toNat=0 then ((b.toNat:Int),1,0) else if onesN b.toNat=1\/onesN b.toNat=8 then (0,0,2) else
  match uncL (onesN b.toNat - 1) l (b.toNat % 2 ^ (7 - onesN b.toNat)) with
  |.inl e=>e
  |.inr n=>if wideN n=onesN b.toNat then ((n:Int),(onesN b.toNat:Int),0) else (0,0,2):=rfl
theorem Uncoded_eq (s:List UInt8) (hl:s.length<=4611686018427387904):LQ.Uncoded s=some (uncV s):=by
 cases s with
 |nil=>rfl
 |cons b l=>
  unfold LQ.Uncoded LQ.Uncoded.t
  have hn:(0:Int)<=0/\(0:Int)<Int.ofNat (b::l).length:=by simp only [zN,List.length_cons];omega
  have hb:=b.toNat_lt
  obtain ⟨o8,hf⟩:=first_num b
  rw [Tr.rR,show ((b::l) == ([]:List UInt8))=false from rfl,zc,Tr.rN _ hn,Tr.rB]
  rw [show (b::l).getD 0 0=b from rfl,LZ8_eq,zb,Tr.rR]
  rw [uncV_cons]
  by_cases h0:onesN b.toNat=0
  ·rw [if_pos h0,h0,show (((0:Nat):Int) == 0)=true from rfl,zC,Tr.rN _ hn,Tr.rT,w64_id (by simp only [zN];omega)]
   rfl
  ·have e0:(((onesN b.toNat:Nat):Int) == 0)=false:=by rw [beq_eq_false_iff_ne];omega
   rw [e0,zc,if_neg h0,Tr.rB,Tr.rR]
   by_cases h1:onesN b.toNat=1
   ·rw [if_pos (.inl h1),h1];rfl
   ·have e1:(((onesN b.toNat:Nat):Int) == 1)=false:=by rw [beq_eq_false_iff_ne];omega
    rw [e1,zc,Tr.rT,zb,Tr.rR]
    by_cases h8:onesN b.toNat=8
    ·rw [if_pos (.inr h8),h8];rfl
    ·have e8:(((onesN b.toNat:Nat):Int) == 8)=false:=by rw [beq_eq_false_iff_ne];omega
     have hr0:(0:Int)<=((onesN b.toNat:Nat):Int):=by omega
     rw [e8,zc,if_neg (by omega),Tr.rN _ hn,Tr.rN _ hr0,Tr.rB,hf]
     have hlt:b.toNat % 2 ^ (7 - onesN b.toNat)<2 ^ (7 - onesN b.toNat)*64 ^ 0:=by
      rw [Nat.pow_zero,Nat.mul_one];exact Nat.mod_lt _ (Nat.two_pow_pos _)
     have hL:=unc_loop (b::l) (onesN b.toNat) ⟨by omega,by omega⟩ hl (onesN b.toNat - 1) 0 _ (by omega) hlt (by simp)
     refine (congrArg (fun o=>Option.bind o _) hL).trans ?_
     rw [show (b::l).drop (0+1)=l from rfl]
     cases hu:uncL (onesN b.toNat - 1) l (b.toNat % 2 ^ (7 - onesN b.toNat)) with
     |inl e=>rfl
     |inr n=>
      have hbd:=uncL_bd _ _ _ (2 ^ (7 - onesN b.toNat)) _ (Nat.mod_lt _ (Nat.two_pow_pos _)) hu
      have hpow:2 ^ (7 - onesN b.toNat)*64 ^ (onesN b.toNat - 1)<=68719476736:=by
       rw [show (64:Nat)=2 ^ 6 from rfl,←Nat.pow_mul,←Nat.pow_add]
       exact Nat.le_trans (Nat.pow_le_pow_right (by decide) (show 7 - onesN b.toNat+6*(onesN b.toNat - 1)<=36 by omega)) (by decide)
      show (Tr.bind Int (LQ.bWide (n:Int)) 0 _).run=_
      rw [Tr.rB,bWide_eq n (by omega),zb,Tr.rR]
      by_cases hw:wideN n=onesN b.toNat
      ·rw [hw,show (((onesN b.toNat:Nat):Int) != ((onesN b.toNat:Nat):Int))=false from by simp,zc,Tr.rT]
       simp only [hw,if_true]
      ·have e2:(((wideN n:Nat):Int) != ((onesN b.toNat:Nat):Int))=true:=by rw [bne_iff_ne];omega
       rw [e2,zC,Tr.rT]
       simp only [hw,if_false]
end
section
set_option maxRecDepth 100000
open Go.LM
theorem cbyte_num (n i:Nat):(cbyte n i).toNat=128+n / 64 ^ i % 64:=by
 unfold cbyte
 have:n / 64 ^ i % 64<64:=Nat.mod_lt _ (by decide)
 simp
 omega
theorem lead_num:∀ k:Fin 8,2<=k.1->∀ v:Fin 32,v.1<2 ^ (7 - k.1)->onesN (UInt8.ofNat (256 - 2 ^ (8 - k.1)+v.1)).toNat=k.1/\(UInt8.ofNat (256 - 2 ^ (8 - k.1)+v.1)).toNat % 2 ^ (7 - k.1)=v.1:=by decide +kernel
theorem lead_back (n k:Nat) (hk:2<=k/\k<=7) (h:n<2 ^ (5*k+1)):onesN (lead n k).toNat=k/\(lead n k).toNat % 2 ^ (7 - k)=n / 64 ^ (k - 1):=by
 have hv:=lead_lt n k hk h
 have h32:2 ^ (7 - k)<=32:=by
  have:2 ^ (7 - k)<=2 ^ 5:=Nat.pow_le_pow_right (by decide) (by omega)
  omega
 exact lead_num ⟨k,by omega⟩ hk.1 ⟨n / 64 ^ (k - 1),by omega⟩ hv
theorem uncL_back (n:Nat) (t:List UInt8):∀ m,uncL m ((List.range m).map (fun q=>cbyte n (m - 1 - q))++t) (n / 64 ^ m)=.inr n
 |0=>by simp [uncL]
 |m+1=>by
  have e:(List.range (m+1)).map (fun q=>cbyte n (m+1 - 1 - q))=cbyte n m::(List.range m).map (fun q=>cbyte n (m - 1 - q)):=by
   rw [List.range_succ_eq_map,List.map_cons,List.map_map]
   congr 1
   apply List.map_congr_left
   intro q _
   show cbyte n (m+1 - 1 - (q+1))=_
   congr 1;omega
  rw [e,List.cons_append,uncL_cons,cbyte_num]
  have hm:n / 64 ^ m % 64<64:=Nat.mod_lt _ (by decide)
  rw [if_neg (fun h=>h (by omega))]
  have e2:n / 64 ^ (m+1)*64+(128+n / 64 ^ m % 64) % 64=n / 64 ^ m:=by
   rw [Nat.pow_succ,←Nat.div_div_eq_div_mul]
   omega
  rw [e2]
  exact uncL_back n t m
theorem uncV_back (n:Nat) (t:List UInt8) (h:n<68719476736):uncV (codB n++t)=((n:Int),(wideN n:Int),0):=by
 obtain ⟨w1,w7,wA,wB⟩:=wideN_bd n h
 unfold codB
 by_cases h1:n<128
 ·have hw:wideN n=1:=by unfold wideN;rw [if_pos h1]
  have e:(UInt8.ofNat n).toNat=n:=by simp;omega
  have o:onesN n=0:=by unfold onesN;rw [if_pos h1]
  rw [if_pos h1,List.cons_append,uncV_cons,e,if_pos o,hw]
  rfl
 ·rw [if_neg h1,List.cons_append,uncV_cons]
  have hk:2<=wideN n:=by
   have:wideN n≠1:=fun e=>h1 (wA e)
   omega
  obtain ⟨b1,b2,_⟩:=wB hk
  obtain ⟨l1,l2⟩:=lead_back n _ ⟨hk,w7⟩ b2
  rw [l1,l2,if_neg (by omega),if_neg (by omega)]
  have e:(List.range (wideN n - 1)).map (fun q=>cbyte n (wideN n - 2 - q))=(List.range (wideN n - 1)).map (fun q=>cbyte n (wideN n - 1 - 1 - q)):=rfl
  have:=uncL_back n t (wideN n - 1)
  rw [show (List.range (wideN n - 1)).map (fun q=>cbyte n (wideN n - 2 - q))=(List.range (wideN n - 1)).map (fun q=>cbyte n (wideN n - 1 - 1 - q)) from rfl,this]
  simp only [if_true]
end
section
set_option maxRecDepth 100000
open Go.LM
def sizeN (c:Int):Int:=if c=1 then 192 else if 2<=c/\c<=5 then 144*((2 ^ c.toNat:Nat):Int) else if 8<=c/\c<=15 then ((2 ^ c.toNat:Nat):Int) else 0
theorem sizeOf_eq (c:Int) (h:0<=c/\c<=15):LQ.sizeOf c=some (sizeN c):=by
 obtain ⟨n,rfl⟩:∃ n:Nat,c=(n:Int):=⟨c.toNat,by omega⟩
 have hn:n<=15:=by omega
 have hp:p2 (n:Int) 64=((2 ^ n:Nat):Int):=p2_nat' _ _ (by omega)
 have h0:(0:Int)<=(n:Int):=by omega
 have hb:2 ^ n<=2 ^ 15:=Nat.pow_le_pow_right (by decide) hn
 have hb2:(2:Nat) ^ 15=32768:=by decide
 unfold LQ.sizeOf LQ.sizeOf.t sizeN
 rw [Tr.rR,hp,Int.toNat_natCast]
 rw [hb2] at hb
 generalize (2:Nat) ^ n=Q at hb ⊢
 by_cases h1:(n:Int)=1
 ·rw [if_pos h1,h1];rfl
 ·rw [if_neg h1,show ((n:Int) == 1)=false from by rw [beq_eq_false_iff_ne];exact h1,zc,Tr.rB,Tr.rR]
  by_cases h2:2<=(n:Int)
  ·by_cases h5:(n:Int)<=5
   ·rw [zT (show (n:Int)>=2 from h2),zC,Tr.rT,zT h5,zb,Tr.rR,zC,Tr.rN _ h0,Tr.rT,if_pos ⟨h2,h5⟩,w64_id (by omega)]
   ·rw [zT (show (n:Int)>=2 from h2),zC,Tr.rT,zF h5,zb,Tr.rR,zc,if_neg (by omega),Tr.rB,Tr.rR]
    by_cases h8:8<=(n:Int)
    ·rw [zT (show (n:Int)>=8 from h8),zC,Tr.rT,zT (by omega),zb,Tr.rR,zC,Tr.rN _ h0,Tr.rT,if_pos ⟨h8,by omega⟩,w64_id (by omega),Int.one_mul]
    ·rw [zF (show ¬ (n:Int)>=8 from h8),zc,Tr.rT,zb,Tr.rR,zc,Tr.rT,if_neg (by omega)]
  ·rw [zF (show ¬ (n:Int)>=2 from h2),zc,Tr.rT,zb,Tr.rR,zc,if_neg (by omega),Tr.rB,Tr.rR,zF (show ¬ (n:Int)>=8 by omega),zc,Tr.rT,zb,Tr.rR,zc,Tr.rT,if_neg (by omega)]
def widthT (c:Int):Int:=([0,8,12,-1,16,20,24,-1]:List Int).getD c.toNat 0
theorem widthOf_eq (c:Int) (h:0<=c/\c<8):LQ.widthOf c=some (widthT c):=by
 unfold LQ.widthOf LQ.widthOf.t
 rw [Tr.rN _ h];rfl
def extraN (c:Int):Int×Int:=if c=12 then (1,1000) else if c=13 then (2,1) else if c=14 then (2,10) else (0,0)
theorem extra_eq (c:Int):LQ.extra c=some (extraN c):=by
 unfold LQ.extra LQ.extra.t extraN
 simp only [Tr.rR,Tr.rT]
 by_cases h1:c=12
 ·subst h1;rfl
 ·rw [show (c == 12)=false from by rw [beq_eq_false_iff_ne];exact h1,if_neg h1,zc]
  by_cases h2:c=13
  ·subst h2;rfl
  ·rw [show (c == 13)=false from by rw [beq_eq_false_iff_ne];exact h2,if_neg h2,zc]
   by_cases h3:c=14
   ·subst h3;rfl
   ·rw [show (c == 14)=false from by rw [beq_eq_false_iff_ne];exact h3,if_neg h3,zc]
def ratesT:List Int:=[0,88200,176400,192000,8000,16000,22050,24000,32000,44100,48000,96000]
theorem rates_eq:LQ.rates=some ratesT:=rfl
def rateOk (c n:Int):Bool:=if c=12 then decide (n % 1000=0/\n / 1000<256) else if c=13 then decide (n<65536) else if c=14 then decide (n % 10=0/\n / 10<65536) else decide (c=0\/(0<c/\c<12/\ratesT.getD c.toNat 0=n))
theorem rate_eq (c n:Int) (hn:0<=n/\n<9223372036854775808):LQ.rate c n=some (rateOk c n):=by
 have t1000:n.tmod 1000=n % 1000:=Int.tmod_eq_emod_of_nonneg hn.1
 have d1000:n.tdiv 1000=n / 1000:=Int.tdiv_eq_ediv_of_nonneg hn.1
 have t1:n.tmod 1=n % 1:=Int.tmod_eq_emod_of_nonneg hn.1
 have d1:n.tdiv 1=n / 1:=Int.tdiv_eq_ediv_of_nonneg hn.1
 have t10:n.tmod 10=n % 10:=Int.tmod_eq_emod_of_nonneg hn.1
 have d10:n.tdiv 10=n / 10:=Int.tdiv_eq_ediv_of_nonneg hn.1
 unfold LQ.rate LQ.rate.t
 rw [Tr.rB,extra_eq,zb]
 unfold extraN rateOk
 by_cases h1:c=12
 ·rw [if_pos h1,if_pos h1]
  show (Tr.br (decide ((1:Int)>0)) _ _).run=_
  rw [show decide ((1:Int)>0)=true from rfl,Tr.rR,zC,Tr.rB]
  have e:w64 (1*p2 (w64 (8*1)) 64)=256:=by decide
  have e0:(0:Int)<=w64 (8*1):=by decide
  simp only [Tr.rN _ (show (1000:Int)≠0 by decide),Tr.rR,Tr.rN _ e0,Tr.rT,e,t1000,d1000]
  rw [w64_id (by omega)]
  by_cases h:n % 1000=0
  ·rw [h,show ((0:Int) == 0)=true from rfl,zC,zb]
   congr 1
   exact decide_eq_decide.2 (by simp)
  ·rw [show (n % 1000 == 0)=false from by rw [beq_eq_false_iff_ne];exact h,zc,zb,zF (by omega)]
 ·by_cases h2:c=13
  ·rw [if_neg h1,if_neg h1,if_pos h2,if_pos h2]
   show (Tr.br (decide ((2:Int)>0)) _ _).run=_
   rw [show decide ((2:Int)>0)=true from rfl,Tr.rR,zC,Tr.rB]
   have e:w64 (1*p2 (w64 (8*2)) 64)=65536:=by decide
   have e0:(0:Int)<=w64 (8*2):=by decide
   simp only [Tr.rN _ (show (1:Int)≠0 by decide),Tr.rR,Tr.rN _ e0,Tr.rT,e,t1,d1]
   rw [w64_id (by omega),show n % 1=0 by omega,show n / 1=n by omega]
   rfl
  ·by_cases h3:c=14
   ·rw [if_neg h1,if_neg h1,if_neg h2,if_neg h2,if_pos h3,if_pos h3]
    show (Tr.br (decide ((2:Int)>0)) _ _).run=_
    rw [show decide ((2:Int)>0)=true from rfl,Tr.rR,zC,Tr.rB]
    have e:w64 (1*p2 (w64 (8*2)) 64)=65536:=by decide
    have e0:(0:Int)<=w64 (8*2):=by decide
    simp only [Tr.rN _ (show (10:Int)≠0 by decide),Tr.rR,Tr.rN _ e0,Tr.rT,e,t10,d10]
    rw [w64_id (by omega)]
    by_cases h:n % 10=0
    ·rw [h,show ((0:Int) == 0)=true from rfl,zC,zb]
     congr 1
     exact decide_eq_decide.2 (by simp)
    ·rw [show (n % 10 == 0)=false from by rw [beq_eq_false_iff_ne];exact h,zc,zb,zF (by omega)]
   ·rw [if_neg h1,if_neg h1,if_neg h2,if_neg h2,if_neg h3,if_neg h3]
    show (Tr.br (decide ((0:Int)>0)) _ _).run=_
    rw [show decide ((0:Int)>0)=false from rfl,Tr.rR,zc,Tr.rB]
    by_cases h0:c=0
    ·rw [h0];rfl
    ·simp only [Tr.rR,Tr.rT,Tr.rB,rates_eq,zb]
     rw [show (c == 0)=false from by rw [beq_eq_false_iff_ne];exact h0,zc]
     by_cases hp:c>0
     ·rw [zT hp,zC]
      by_cases hl:c<12
      ·have hb:(0:Int)<=c/\c<Int.ofNat ratesT.length:=⟨by omega,by show c<12;exact hl⟩
       rw [zT hl,zC,Tr.rN _ hb,Tr.rT,zb]
       congr 1
       rw [Bool.eq_iff_iff,beq_iff_eq,decide_eq_true_eq]
       constructor
       ·intro h;exact .inr ⟨hp,hl,h⟩
       ·rintro (h|⟨_,_,h⟩)
        ·exact absurd h h0
        ·exact h
      ·rw [zF hl,zc,zb,zF (by omega)]
     ·rw [zF hp,zc,zb,zF (by omega)]
def fsizeOk (c n:Int):Bool:=if c=6 then decide (n<=256) else if c=7 then decide (n<=65536) else decide (0<c/\c<16/\sizeN c=n)
theorem fsize_eq (c n:Int):LQ.fsize c n=some (fsizeOk c n):=by
 unfold LQ.fsize LQ.fsize.t fsizeOk
 rw [Tr.rR]
 by_cases h6:c=6
 ·subst h6;rfl
 ·rw [show (c == 6)=false from by rw [beq_eq_false_iff_ne];exact h6,zc,if_neg h6,Tr.rR]
  by_cases h7:c=7
  ·subst h7;rfl
  ·rw [show (c == 7)=false from by rw [beq_eq_false_iff_ne];exact h7,zc,if_neg h7,Tr.rB,Tr.rR]
   by_cases hp:c>0
   ·rw [zT hp,zC,Tr.rR]
    by_cases hl:c<16
    ·rw [zT hl,zC,Tr.rB,sizeOf_eq c (by omega),zb,Tr.rT,zb,Tr.rT]
     congr 1
     rw [Bool.eq_iff_iff,beq_iff_eq,decide_eq_true_eq]
     exact ⟨fun h=>⟨hp,hl,h⟩,fun h=>h.2.2⟩
    ·rw [zF hl,zc,Tr.rT,zb,Tr.rT,zF (by omega)]
   ·rw [zF hp,zc,Tr.rT,zb,Tr.rT,zF (by omega)]
def wideV (w md i:Int):Int:=if (md=1/\i=1)\/(md=2/\i=0)\/(md=3/\i=1) then w+1 else w
abbrev InfD:=Int×Int×Int×Int×Int×Int×Int×Int×List UInt8×Unit
theorem fwide_eq (i0 i1 i2 i3 rt ch w i7:Int) (i8:List UInt8) (md i:Int) (hm:0<=md/\md<=3) (hi:0<=i) (hw:0<=w/\w<=100):LQ.fwide (i0,i1,i2,i3,rt,ch,w,i7,i8,()) md i=some (wideV w md i):=by
 have hs:LQ.side md=some (([-1,1,0,1]:List Int).getD md.toNat 0):=by
  unfold LQ.side LQ.side.t
  have h:0<=md/\md<4:=by omega
  rw [Tr.rN _ h];rfl
 have hw1:w64 (w+1)=w+1:=w64_id (by omega)
 unfold LQ.fwide LQ.fwide.t
 rw [Tr.rB,hs,zb,Tr.rR,Tr.rT,Tr.rT]
 simp only [hw1]
 unfold wideV
 have:md=0\/md=1\/md=2\/md=3:=by omega
 rcases this with rfl|rfl|rfl|rfl
 ·rw [if_neg (by omega),show (([-1,1,0,1]:List Int).getD (Int.toNat 0) 0 == i)=false from by rw [beq_eq_false_iff_ne];show (-1:Int)≠i;omega];rfl
 ·show (bif ((1:Int) == i) then _ else _)=_
  by_cases h:i=1
  ·subst h;rfl
  ·rw [if_neg (by omega),show ((1:Int) == i)=false from by rw [beq_eq_false_iff_ne];omega];rfl
 ·show (bif ((0:Int) == i) then _ else _)=_
  by_cases h:i=0
  ·subst h;rfl
  ·rw [if_neg (by omega),show ((0:Int) == i)=false from by rw [beq_eq_false_iff_ne];omega];rfl
 ·show (bif ((1:Int) == i) then _ else _)=_
  by_cases h:i=1
  ·subst h;rfl
  ·rw [if_neg (by omega),show ((1:Int) == i)=false from by rw [beq_eq_false_iff_ne];omega];rfl
def streamOk (rt ch w:Int):Bool:=decide (1<=ch/\ch<=8/\4<=w/\w<=24/\0<rt)
theorem stream_eq (i0 i1 i2 i3 rt ch w i7:Int) (i8:List UInt8):LQ.stream (i0,i1,i2,i3,rt,ch,w,i7,i8,())=some (streamOk rt ch w):=by
 unfold LQ.stream LQ.stream.t streamOk
 simp only [Tr.rB,Tr.rR,Tr.rT]
 by_cases h1:ch>=1
 ·by_cases h2:ch<=8
  ·by_cases h3:w>=4
   ·by_cases h4:w<=24
    ·rw [zT h1,zT h2,zT h3,zT h4]
     simp only [zC,zb]
     congr 1
     exact decide_eq_decide.2 ⟨fun h=>⟨h1,h2,h3,h4,h⟩,fun h=>h.2.2.2.2⟩
    ·rw [zT h1,zT h2,zT h3,zF h4,zF (show ¬ (1<=ch/\ch<=8/\4<=w/\w<=24/\0<rt) by omega)];rfl
   ·rw [zT h1,zT h2,zF h3,zF (show ¬ (1<=ch/\ch<=8/\4<=w/\w<=24/\0<rt) by omega)];rfl
  ·rw [zT h1,zF h2,zF (show ¬ (1<=ch/\ch<=8/\4<=w/\w<=24/\0<rt) by omega)];rfl
 ·rw [zF h1,zF (show ¬ (1<=ch/\ch<=8/\4<=w/\w<=24/\0<rt) by omega)];rfl
end
section
set_option maxRecDepth 100000
open Go.LM
def zSub:SubD:=((0:Int),(0:Int),(0:Int),(0:Int),(0:Int),[],((0:Int),(0:Int),[],[],()),())
structure SubIn (d:SubD):Prop where
 m:inR d.2.2.2.2.2.2.1.1
 cs:∀ c∈d.2.2.2.2.2.1,inR c
 cl:d.2.2.2.2.2.1.length<=1048576
 pl:d.2.2.2.2.2.2.1.2.2.1.length<=1048576
 el:d.2.2.2.2.2.2.1.2.2.2.1.length<=1048576
structure FcOK (v:Bool) (nm sz sc rc wc md:Int) (subs:List SubD) (rt ch w:Int):Prop where
 hst:1<=ch/\ch<=8/\4<=w/\w<=24/\0<rt
 hsz:1<=sz/\sz<=4608
 hnm:0<=nm/\nm<=(if v=true then 68719476735 else 2147483647)
 hmd:0<=md/\md<=3
 hm2:md=0\/ch=2
 hfs:fsizeOk sc sz=true
 hra:rateOk rc rt=true
 hln:(subs.length:Int)=ch
 hwc:wc=0\/(0<wc/\wc<8/\widthT wc=w)
 hsb:∀ i,i<subs.length->∃ (s:Sb) (W:Nat),wideV w md i=(W:Int)/\s.D=subs.getD i zSub/\CkOK s W sz.toNat/\LQ.Check s.D sz (W:Int)=some 0
end
section
set_option maxRecDepth 100000
open Go.LM
theorem loopO_ex3 {D R:Type} {f:D->Option (D⊕R)} (P:Nat->Prop) (bad:Nat->R) (good:R) (N:Nat) (S:Nat->D) (h:∀ i,i<N->(P i/\f (S i)=some (.inl (S (i+1))))\/(¬ P i/\f (S i)=some (.inr (bad i)))) (he:f (S N)=some (.inr good)) :
  (loopO f (S 0)=some good/\∀ i,i<N->P i)\/∃ i,i<N/\¬ P i/\loopO f (S 0)=some (bad i):=by
 have go:∀ j i,i+j=N->(∀ x,x<i->P x)->(loopO f (S i)=some good/\∀ i,i<N->P i)\/∃ k,k<N/\¬ P k/\loopO f (S i)=some (bad k):=by
  intro j
  induction j with
  |zero=>
   intro i hi hx
   have:i=N:=by omega
   subst this
   exact .inl ⟨loopO_done he,hx⟩
  |succ j ih=>
   intro i hi hx
   rcases h i (by omega) with ⟨a,b⟩|⟨a,b⟩
   ·rw [loopO_next b]
    exact ih (i+1) (by omega) fun x hx'=>by
     by_cases e:x=i
     ·rw [e];exact a
     ·exact hx x (by omega)
   ·exact .inr ⟨i,by omega,a,loopO_done b⟩
 exact go N 0 (by omega) (fun x hx=>by omega)
theorem div63 (n:Int) (h:inR n):n / 9223372036854775808=if 0<=n then 0 else -1:=by
 unfold inR at h
 split<;>omega
theorem divW (n:Int) (q:Int) (hq:1<=q):(-q<=n/\n<q)↔n / q=(if 0<=n then 0 else -1):=by
 have h1:q*(n / q)+n % q=n:=Int.mul_ediv_add_emod n q
 have h2:=Int.emod_nonneg n (show q≠0 by omega)
 have h3:=Int.emod_lt_of_pos n (show 0<q by omega)
 split
 ·rename_i h0
  constructor
  ·rintro ⟨a,b⟩
   exact Int.ediv_eq_zero_of_lt h0 b
  ·intro e
   rw [e] at h1;omega
 ·rename_i h0
  constructor
  ·rintro ⟨a,b⟩
   have:(n+q*1) / q=0:=Int.ediv_eq_zero_of_lt (by omega) (by omega)
   rw [Int.add_mul_ediv_left _ _ (by omega)] at this
   omega
  ·intro e
   rw [e] at h1;omega
theorem fit_iff (n:Int) (W:Nat) (h:inR n):fitsW W n↔n / ((2 ^ (W - 1):Nat):Int)=n / 9223372036854775808:=by
 rw [div63 n h]
 have:=Nat.two_pow_pos (W - 1)
 exact divW n _ (by omega)
theorem blk2_dec (x:Int) (i0 i1 i2 i3 i4 i5 i7:Int) (i8:List UInt8) (W:Nat) (hW:1<=W/\W<=63) (h:inR x) :
  (fitsW W x/\LQ.blk2 x i0 i1 i2 i3 i4 i5 (W:Int) i7 i8=some (false,i0,i1,i2,i3,i4,i5,(W:Int),i7,i8))\/(¬ fitsW W x/\LQ.blk2 x i0 i1 i2 i3 i4 i5 (W:Int) i7 i8=some (true,i0,i1,i2,i3,i4,i5,(W:Int),i7,i8)):=by
 have hw1:w64 ((W:Int) - 1)=((W - 1:Nat):Int):=by rw [w64_id (by omega)];omega
 have h0:(0:Int)<=((W - 1:Nat):Int):=by omega
 have hp:p2 (((W - 1:Nat):Int)) 64=((2 ^ (W - 1):Nat):Int):=p2_nat' _ _ (by omega)
 unfold LQ.blk2 LQ.blk2.t
 rw [hw1,Tr.rN _ h0,hp,Tr.rT]
 by_cases e:x / ((2 ^ (W - 1):Nat):Int)=x / 9223372036854775808
 ·left
  exact ⟨(fit_iff x W h).2 e,by rw [e];simp⟩
 ·right
  refine ⟨fun c=>e ((fit_iff x W h).1 c),?_⟩
  rw [show (x / ((2 ^ (W - 1):Nat):Int) != x / 9223372036854775808)=true from by rw [bne_iff_ne];exact e]
theorem mem_getD {l:List Int} {P:Int->Prop}:(∀ i,i<l.length->P (l.getD i 0))↔∀ n∈l,P n:=by
 constructor
 ·intro h n hn
  obtain ⟨i,hi,rfl⟩:=List.getElem_of_mem hn
  have:=h i hi
  rwa [getD_lt _ _ hi] at this
 ·intro h i hi
  rw [getD_lt _ _ hi]
  exact h _ (List.getElem_mem hi)
theorem ConB_dec (s:List Int) (i0 i1 i2 i3 i4 i5 i7:Int) (i8:List UInt8) (W:Nat) (hW:1<=W/\W<=63) (h:∀ x∈s,inR x) (hl:s.length<=1048576) :
  ((∀ x∈s,fitsW W x)/\LQ.ConB s i0 i1 i2 i3 i4 i5 (W:Int) i7 i8=some (false,i0,i1,i2,i3,i4,i5,(W:Int),i7,i8))\/((¬ ∀ x∈s,fitsW W x)/\LQ.ConB s i0 i1 i2 i3 i4 i5 (W:Int) i7 i8=some (true,i0,i1,i2,i3,i4,i5,(W:Int),i7,i8)):=by
 have key:=loopO_ex3 (f:=(fun (d:Int×Int×Int×Int×Int×Int×Int×Int×Int×List UInt8)=>(LQ.IdxB.l0 s d.1 d.2.1 d.2.2.1 d.2.2.2.1 d.2.2.2.2.1 d.2.2.2.2.2.1 d.2.2.2.2.2.2.1 d.2.2.2.2.2.2.2.1 d.2.2.2.2.2.2.2.2.1 d.2.2.2.2.2.2.2.2.2).run))
  (fun i=>fitsW W (s.getD i 0)) (fun i=>.inl ((i:Int),i0,i1,i2,i3,i4,i5,(W:Int),i7,i8)) (.inr (i0,i1,i2,i3,i4,i5,(W:Int),i7,i8)) s.length (fun i=>((i:Int),i0,i1,i2,i3,i4,i5,(W:Int),i7,i8)) (fun i hi=>by
   have hd:decide ((i:Int)<Int.ofNat s.length)=true:=zT (by simp only [zN];omega)
   have hn:(0:Int)<=(i:Int)/\(i:Int)<Int.ofNat s.length:=by simp only [zN];omega
   have hi1:w64 ((i:Int)+1)=((i+1:Nat):Int):=by rw [w64_id (by omega)];omega
   have hb:=blk2_dec (s.getD i 0) i0 i1 i2 i3 i4 i5 i7 i8 W hW (by rw [getD_lt _ _ hi];exact h _ (List.getElem_mem hi))
   rcases hb with ⟨a,b⟩|⟨a,b⟩
   ·left
    refine ⟨a,?_⟩
    show (LQ.IdxB.l0 s (i:Int) _ _ _ _ _ _ _ _ _).run=_
    unfold LQ.IdxB.l0
    rw [Tr.rR,hd,zC,Tr.rN _ hn,Tr.rB,Int.toNat_natCast]
    refine (bindT b).trans ?_
    rw [Tr.rR,zc,hi1];rfl
   ·right
    refine ⟨a,?_⟩
    show (LQ.IdxB.l0 s (i:Int) _ _ _ _ _ _ _ _ _).run=_
    unfold LQ.IdxB.l0
    rw [Tr.rR,hd,zC,Tr.rN _ hn,Tr.rB,Int.toNat_natCast]
    refine (bindT b).trans ?_
    rfl) (by
   show (LQ.IdxB.l0 s ((s.length:Nat):Int) _ _ _ _ _ _ _ _ _).run=_
   unfold LQ.IdxB.l0
   rw [Tr.rR,show decide (((s.length:Nat):Int)<Int.ofNat s.length)=false from zF (by simp only [zN];omega)]
   rfl)
 unfold LQ.ConB LQ.ConB.t LQ.IdxB LQ.IdxB.t
 rw [Tr.rB,Tr.rB]
 rcases key with ⟨a,b⟩|⟨i,hi,b,a⟩
 ·left
  exact ⟨mem_getD.1 b,(congrArg (fun x=>Option.bind x _) (bindT a)).trans rfl⟩
 ·right
  refine ⟨fun c=>b (mem_getD.2 c i hi),(congrArg (fun x=>Option.bind x _) (bindT a)).trans ?_⟩
  show some (decide (((i:Nat):Int)>=0),_)=_
  rw [zT (by omega)]
theorem blk1_dec (l:List Int) (n i0 i1 i2 i3 i4 i5 i7:Int) (i8:List UInt8) (W:Nat) (hW:1<=W/\W<=63) (h:∀ x∈l,inR x) (hl:l.length<=1048576) :
  (((l.length:Int)=n/\∀ x∈l,fitsW W x)/\LQ.blk1 l n i0 i1 i2 i3 i4 i5 (W:Int) i7 i8=some (false,n,i0,i1,i2,i3,i4,i5,(W:Int),i7,i8))\/((¬ ((l.length:Int)=n/\∀ x∈l,fitsW W x))/\LQ.blk1 l n i0 i1 i2 i3 i4 i5 (W:Int) i7 i8=some (true,n,i0,i1,i2,i3,i4,i5,(W:Int),i7,i8)):=by
 unfold LQ.blk1 LQ.blk1.t
 rw [Tr.rB,Tr.rR]
 by_cases e:(l.length:Int)=n
 ·rw [show (Int.ofNat l.length != n)=false from by simp [e],zc,Tr.rB]
  rcases ConB_dec l i0 i1 i2 i3 i4 i5 i7 i8 W hW h hl with ⟨a,b⟩|⟨a,b⟩
  ·left
   exact ⟨⟨e,a⟩,(congrArg (fun x=>Option.bind x _) (bindT b)).trans rfl⟩
  ·right
   exact ⟨fun c=>a c.2,(congrArg (fun x=>Option.bind x _) (bindT b)).trans rfl⟩
 ·right
  refine ⟨fun c=>e c.1,?_⟩
  rw [show (Int.ofNat l.length != n)=true from by rw [bne_iff_ne];exact e]
  rfl
def BlkOK (n:Int) (W:Nat) (planes:List (List Int)):Prop:=∀ l∈planes,(l.length:Int)=n/\∀ x∈l,fitsW W x
theorem mem_getDL {l:List (List Int)} {P:List Int->Prop}:(∀ i,i<l.length->P (l.getD i []))↔∀ n∈l,P n:=by
 constructor
 ·intro h n hn
  obtain ⟨i,hi,rfl⟩:=List.getElem_of_mem hn
  have:=h i hi
  rwa [getD_lt _ _ hi] at this
 ·intro h i hi
  rw [getD_lt _ _ hi]
  exact h _ (List.getElem_mem hi)
theorem fBlock_dec (planes:List (List Int)) (n i0 i1 i2 i3 i4 ch i7:Int) (i8:List UInt8) (W:Nat) (hW:1<=W/\W<=63) (h:∀ l∈planes,(∀ x∈l,inR x)/\l.length<=1048576) (hl:planes.length<=1048576) :
  (((planes.length:Int)=ch/\BlkOK n W planes)/\LQ.fBlock (i0,i1,i2,i3,i4,ch,(W:Int),i7,i8,()) n planes=some true)\/((¬ ((planes.length:Int)=ch/\BlkOK n W planes))/\LQ.fBlock (i0,i1,i2,i3,i4,ch,(W:Int),i7,i8,()) n planes=some false):=by
 have key:=loopO_ex3 (f:=(fun (d:Int×Int×Int×Int×Int×Int×Int×Int×Int×Int×List UInt8)=>(LQ.IdxC.l0 planes d.1 d.2.1 d.2.2.1 d.2.2.2.1 d.2.2.2.2.1 d.2.2.2.2.2.1 d.2.2.2.2.2.2.1 d.2.2.2.2.2.2.2.1 d.2.2.2.2.2.2.2.2.1 d.2.2.2.2.2.2.2.2.2.1 d.2.2.2.2.2.2.2.2.2.2).run))
  (fun i=>((planes.getD i []).length:Int)=n/\∀ x∈planes.getD i [],fitsW W x) (fun i=>.inl ((i:Int),n,i0,i1,i2,i3,i4,ch,(W:Int),i7,i8)) (.inr (n,i0,i1,i2,i3,i4,ch,(W:Int),i7,i8)) planes.length (fun i=>((i:Int),n,i0,i1,i2,i3,i4,ch,(W:Int),i7,i8)) (fun i hi=>by
   have hd:decide ((i:Int)<Int.ofNat planes.length)=true:=zT (by simp only [zN];omega)
   have hn:(0:Int)<=(i:Int)/\(i:Int)<Int.ofNat planes.length:=by simp only [zN];omega
   have hi1:w64 ((i:Int)+1)=((i+1:Nat):Int):=by rw [w64_id (by omega)];omega
   have hmem:planes.getD i []∈planes:=by rw [getD_lt _ _ hi];exact List.getElem_mem hi
   have hb:=blk1_dec (planes.getD i []) n i0 i1 i2 i3 i4 ch i7 i8 W hW (h _ hmem).1 (h _ hmem).2
   rcases hb with ⟨a,b⟩|⟨a,b⟩
   ·left
    refine ⟨a,?_⟩
    show (LQ.IdxC.l0 planes (i:Int) _ _ _ _ _ _ _ _ _ _).run=_
    unfold LQ.IdxC.l0
    rw [Tr.rR,hd,zC,Tr.rN _ hn,Tr.rB,Int.toNat_natCast]
    refine (bindT b).trans ?_
    rw [Tr.rR,zc,hi1];rfl
   ·right
    refine ⟨a,?_⟩
    show (LQ.IdxC.l0 planes (i:Int) _ _ _ _ _ _ _ _ _ _).run=_
    unfold LQ.IdxC.l0
    rw [Tr.rR,hd,zC,Tr.rN _ hn,Tr.rB,Int.toNat_natCast]
    refine (bindT b).trans ?_
    rfl) (by
   show (LQ.IdxC.l0 planes ((planes.length:Nat):Int) _ _ _ _ _ _ _ _ _ _).run=_
   unfold LQ.IdxC.l0
   rw [Tr.rR,show decide (((planes.length:Nat):Int)<Int.ofNat planes.length)=false from zF (by simp only [zN];omega)]
   rfl)
 unfold LQ.fBlock LQ.fBlock.t
 rw [Tr.rR]
 by_cases e:(planes.length:Int)=ch
 ·show ((_/\_)/\(bif (Int.ofNat planes.length != ch) then _ else _)=_)\/(_/\(bif (Int.ofNat planes.length != ch) then _ else _)=_)
  rw [show (Int.ofNat planes.length != ch)=false from by simp [e],zc,Tr.rB]
  unfold LQ.ConC LQ.ConC.t LQ.IdxC LQ.IdxC.t
  rw [Tr.rB,Tr.rB]
  rcases key with ⟨a,b⟩|⟨i,hi,b,a⟩
  ·left
   refine ⟨⟨e,fun l hl'=>?_⟩,(congrArg (fun x=>Option.bind x _) (congrArg (fun x=>Option.bind x _) (bindT a))).trans rfl⟩
   exact (mem_getDL (P:=fun l=>(l.length:Int)=n/\∀ x∈l,fitsW W x)).1 b l hl'
  ·right
   refine ⟨fun c=>b ((mem_getDL (P:=fun l=>(l.length:Int)=n/\∀ x∈l,fitsW W x)).2 c.2 i hi),(congrArg (fun x=>Option.bind x _) (congrArg (fun x=>Option.bind x _) (bindT a))).trans ?_⟩
   show some (!decide (((i:Nat):Int)>=0))=_
   rw [zT (by omega)];rfl
 ·right
  refine ⟨fun c=>e c.1,?_⟩
  show (bif (Int.ofNat planes.length != ch) then _ else _)=_
  rw [show (Int.ofNat planes.length != ch)=true from by rw [bne_iff_ne];exact e]
  rfl
def st2 (md x y:Int):Int×Int:=if md=1 then (x,x - y) else if md=2 then (x - y,y) else if md=3 then ((x+y) / 2,x - y) else (x,y)
def un2 (md x y:Int):Int×Int:=if md=1 then (x,x - y) else if md=2 then (x+y,y) else if md=3 then (x - y / 2+y,x - y / 2) else (x,y)
theorem un_st (md x y:Int):un2 md (st2 md x y).1 (st2 md x y).2=(x,y):=by
 unfold un2 st2
 by_cases h1:md=1
 ·simp only [h1,if_true,zP,true_and];omega
 ·by_cases h2:md=2
  ·simp only [h1,h2,if_true,if_false];simp
  ·by_cases h3:md=3
   ·simp only [h1,h2,h3,if_true,if_false]
    simp
    omega
   ·simp only [h1,h2,h3,if_false]
theorem uns1_eq (md x y:Int) (hx:-4398046511104<=x/\x<=4398046511104) (hy:-4398046511104<=y/\y<=4398046511104) (hm:0<=md/\md<=3):LQ.uns1 (x,y) md=some (un2 md x y,md):=by
 unfold LQ.uns1 LQ.uns1.t un2
 simp only [Tr.rR,Tr.rT]
 have:md=0\/md=1\/md=2\/md=3:=by omega
 rcases this with rfl|rfl|rfl|rfl
 ·rfl
 ·show some ((_,_),_)=_
  rw [w64_id (by omega)];rfl
 ·show some ((_,_),_)=_
  rw [w64_id (by omega)];rfl
 ·show some ((_,_),_)=_
  rw [w64_id (x:=x - y / 2) (by omega),w64_id (x:=x - y / 2+y) (by omega)];rfl
theorem two2_eq (md:Int) (a b:List Int) (hm:0<=md/\md<=3) (hab:a.length=b.length) (hl:a.length<=1048576) (ha:∀ x∈a,-4398046511104<=x/\x<=4398046511104) (hb:∀ x∈b,-4398046511104<=x/\x<=4398046511104) :
  LQ.two2 (a,b,4398046511104) md=some ((((List.range a.length).map fun i=>(un2 md (a.getD i 0) (b.getD i 0)).1),((List.range a.length).map fun i=>(un2 md (a.getD i 0) (b.getD i 0)).2),0),md):=by
 unfold LQ.two2 LQ.two2.t
 rw [Tr.rR,show (Int.ofNat a.length != Int.ofNat b.length)=false from by rw [hab];simp,zc,Tr.rB]
 have hL:=loopO_steps (f:=fun (d:Int×Int×List Int×List Int)=>(LQ.two2.l0 (a,b,4398046511104) d.1 d.2.1 d.2.2.1 d.2.2.2).run) (r:=.inr (md,((List.range a.length).map fun i=>(un2 md (a.getD i 0) (b.getD i 0)).1),((List.range a.length).map fun i=>(un2 md (a.getD i 0) (b.getD i 0)).2))) (fun k=>((k:Int),md,((List.range k).map fun i=>(un2 md (a.getD i 0) (b.getD i 0)).1),((List.range k).map fun i=>(un2 md (a.getD i 0) (b.getD i 0)).2))) a.length (fun k hk=>by
   have hk2:k<b.length:=by omega
   have hx:=ha (a.getD k 0) (by rw [getD_lt _ _ hk];exact List.getElem_mem hk)
   have hy:=hb (b.getD k 0) (by rw [getD_lt _ _ hk2];exact List.getElem_mem hk2)
   have hd:decide ((k:Int)<Int.ofNat a.length)=true:=zT (by simp only [zN];omega)
   have hn:(0:Int)<=(k:Int)/\(k:Int)<Int.ofNat a.length:=by simp only [zN];omega
   have hn2:(0:Int)<=(k:Int)/\(k:Int)<Int.ofNat b.length:=by simp only [zN];omega
   have hi1:w64 ((k:Int)+1)=((k+1:Nat):Int):=by rw [w64_id (by omega)];omega
   have e1:decide (a.getD k 0>4398046511104)=false:=zF (by omega)
   have e2:decide (a.getD k 0<w64 (0 - 4398046511104))=false:=zF (by rw [w64_id (by omega)];omega)
   have e3:decide (b.getD k 0>4398046511104)=false:=zF (by omega)
   have e4:decide (b.getD k 0<w64 (0 - 4398046511104))=false:=zF (by rw [w64_id (by omega)];omega)
   have hs:=uns1_eq md _ _ hx hy hm
   show (LQ.two2.l0 (a,b,4398046511104) (k:Int) _ _ _).run=_
   unfold LQ.two2.l0
   simp only [Tr.rR,hd,zC,zc,Tr.rB,Tr.rN _ hn,Tr.rN _ hn2,Int.toNat_natCast,e1,e2,e3,e4,Tr.rT,zb,hs,hi1]
   rw [Tr.rN _ (by simp;omega),Tr.rN _ (by simp;omega),Tr.rT,List.range_succ,List.map_append,List.map_append]
   rfl) (by
   show (LQ.two2.l0 (a,b,4398046511104) ((a.length:Nat):Int) _ _ _).run=_
   unfold LQ.two2.l0
   rw [Tr.rR,show decide (((a.length:Nat):Int)<Int.ofNat a.length)=false from zF (by simp only [zN];omega)]
   rfl)
 refine (bindT hL).trans ?_
 rfl
theorem Unstereo_eq (md:Int) (a b:List Int) (hm:0<=md/\md<=3) (hab:a.length=b.length) (hl:a.length<=1048576) (ha:∀ x∈a,-4398046511104<=x/\x<=4398046511104) (hb:∀ x∈b,-4398046511104<=x/\x<=4398046511104) :
  LQ.Unstereo md a b=some (((List.range a.length).map fun i=>(un2 md (a.getD i 0) (b.getD i 0)).1),((List.range a.length).map fun i=>(un2 md (a.getD i 0) (b.getD i 0)).2),0):=by
 unfold LQ.Unstereo LQ.Unstereo.t
 rw [Tr.rB,Tr.rR,zF (show ¬ md<0 by omega),zc,Tr.rT,zF (show ¬ md>3 by omega),zb,Tr.rR,zc,Tr.rB]
 refine (bindT (two2_eq md a b hm hab hl ha hb)).trans ?_
 rfl
end
section
set_option maxRecDepth 100000
open Go.LM
theorem byteB_left (a b:List Bool) (j:Nat) (h:8*j+8<=a.length):byteB (a++b) j=byteB a j:=by
 unfold byteB
 refine val8_congr fun i hi=>?_
 rw [List.getD_eq_getElem?_getD,List.getD_eq_getElem?_getD,List.getElem?_append_left (by omega)]
theorem byteB_right (a b:List Bool) (k j:Nat) (h:a.length=8*k):byteB (a++b) (k+j)=byteB b j:=by
 unfold byteB
 refine val8_congr fun i hi=>?_
 rw [List.getD_eq_getElem?_getD,List.getD_eq_getElem?_getD,List.getElem?_append_right (by omega)]
 congr 2
 omega
theorem pk_append (a b:List Bool) (h:a.length % 8=0):pk (a++b)=pk a++pk b:=by
 obtain ⟨k,hk⟩:∃ k,a.length=8*k:=⟨a.length / 8,by omega⟩
 unfold pk
 have e:((a++b).length+7) / 8=(a.length+7) / 8+(b.length+7) / 8:=by
  rw [zL,hk];omega
 have ek:(a.length+7) / 8=k:=by omega
 rw [e,List.range_add,List.map_append,List.map_map]
 congr 1
 ·apply List.map_congr_left
  intro j hj
  rw [List.mem_range] at hj
  rw [byteB_left a b j (by omega)]
 ·apply List.map_congr_left
  intro j hj
  show UInt8.ofNat (byteB (a++b) ((a.length+7) / 8+j))=_
  rw [ek,byteB_right a b k j hk]
theorem pk_pad (a:List Bool) (p:Nat) (h:(a.length+p+7) / 8=(a.length+7) / 8):pk (a++List.replicate p false)=pk a:=by
 unfold pk
 rw [zL,List.length_replicate,h]
 apply List.map_congr_left
 intro j hj
 congr 1
 unfold byteB
 refine val8_congr fun i hi=>?_
 rw [List.getD_eq_getElem?_getD,List.getD_eq_getElem?_getD]
 by_cases hl:8*j+i<a.length
 ·rw [List.getElem?_append_left hl]
 ·rw [List.getElem?_append_right (by omega),List.getElem?_eq_none (l:=a) (by omega),List.getElem?_replicate]
  split<;>rfl
theorem pk_one:∀ b:UInt8,pk (bitsOf b.toNat 8)=[b]:=u8_every (by decide +kernel)
def tb (t:List UInt8):List Bool:=t.flatMap fun b=>bitsOf b.toNat 8
theorem tb_len:∀ t:List UInt8,(tb t).length=8*t.length
 | []=>rfl
 |b::t=>by
  have:=tb_len t
  unfold tb at this ⊢
  rw [List.flatMap_cons,zL,zG,this,List.length_cons];omega
theorem pk_tb:∀ t:List UInt8,pk (tb t)=t
 | []=>rfl
 |b::t=>by
  have:=pk_tb t
  unfold tb at this ⊢
  rw [List.flatMap_cons,pk_append _ _ (by rw [zG]),pk_one,this];rfl
def padN (n:Nat):Nat:=(8 - n % 8) % 8
theorem pk_text (bs:List Bool) (t:List UInt8):pk bs++t=pk (bs++(List.replicate (padN bs.length) false++tb t)):=by
 have hp:(bs.length+padN bs.length) % 8=0:=by unfold padN;omega
 rw [←List.append_assoc,pk_append _ _ (by rw [zL,List.length_replicate];exact hp),pk_tb,pk_pad]
 unfold padN;omega
def headBits (vv sc rc cc wc:Nat):List Bool:=(((((bitsOf 32764 15++bitsOf vv 1)++bitsOf sc 4)++bitsOf rc 4)++bitsOf cc 4)++bitsOf wc 3)++bitsOf 0 1
def head4 (vv sc rc cc wc:Nat):List UInt8:=[255,UInt8.ofNat (248+vv),UInt8.ofNat (sc*16+rc),UInt8.ofNat (cc*16+wc*2)]
theorem pk_h1:∀ v:Fin 2,pk (bitsOf 32764 15++bitsOf v.1 1)=[255,UInt8.ofNat (248+v.1)]:=by decide +kernel
theorem pk_h2:∀ a b:Fin 16,pk (bitsOf a.1 4++bitsOf b.1 4)=[UInt8.ofNat (a.1*16+b.1)]:=by decide +kernel
theorem pk_h3:∀ a:Fin 16,∀ b:Fin 8,pk ((bitsOf a.1 4++bitsOf b.1 3)++bitsOf 0 1)=[UInt8.ofNat (a.1*16+b.1*2)]:=by decide +kernel
theorem pk_head (vv sc rc cc wc:Nat) (hv:vv<2) (hs:sc<16) (hr:rc<16) (hc:cc<16) (hw:wc<8):pk (headBits vv sc rc cc wc)=head4 vv sc rc cc wc:=by
 have e:headBits vv sc rc cc wc=(bitsOf 32764 15++bitsOf vv 1)++((bitsOf sc 4++bitsOf rc 4)++((bitsOf cc 4++bitsOf wc 3)++bitsOf 0 1)):=by
  unfold headBits;simp only [List.append_assoc]
 have h1:pk (bitsOf 32764 15++bitsOf vv 1)=_:=pk_h1 ⟨vv,hv⟩
 have h2:pk (bitsOf sc 4++bitsOf rc 4)=_:=pk_h2 ⟨sc,hs⟩ ⟨rc,hr⟩
 have h3:pk ((bitsOf cc 4++bitsOf wc 3)++bitsOf 0 1)=_:=pk_h3 ⟨cc,hc⟩ ⟨wc,hw⟩
 rw [e,pk_append (bitsOf 32764 15++bitsOf vv 1) _ (by simp only [zL,zG]),h1,pk_append (bitsOf sc 4++bitsOf rc 4) _ (by simp only [zL,zG]),h2,h3]
 rfl
def beB (n w:Nat):List UInt8:=(leB n w).reverse
theorem beB_len (n w:Nat):(beB n w).length=w:=by unfold beB;rw [List.length_reverse,leB_len]
def szB (sc sz:Nat):List UInt8:=if sc=6 then beB (sz - 1) 1 else if sc=7 then beB (sz - 1) 2 else []
def rtB (rc rt:Nat):List UInt8:=if rc=12 then beB (rt / 1000) 1 else if rc=13 then beB rt 2 else if rc=14 then beB (rt / 10) 2 else []
def headV (v:Bool) (nm sz sc rc wc cc rt:Nat):List UInt8:=((head4 v.toNat sc rc cc wc++codB nm)++szB sc sz)++rtB rc rt
def headS (v:Bool) (nm sz sc rc wc cc rt:Nat):List UInt8:=headV v nm sz sc rc wc cc rt++[UInt8.ofNat (c8 (headV v nm sz sc rc wc cc rt))]
theorem szB_len (sc sz:Nat):(szB sc sz).length<=2:=by
 unfold szB
 split
 ·rw [beB_len];omega
 ·split
  ·rw [beB_len];omega
  ·simp
theorem rtB_len (sc sz:Nat):(rtB sc sz).length<=2:=by
 unfold rtB
 split
 ·rw [beB_len];omega
 ·split
  ·rw [beB_len];omega
  ·split
   ·rw [beB_len];omega
   ·simp
theorem headV_len (v:Bool) (nm sz sc rc wc cc rt:Nat) (h:nm<68719476736):(headV v nm sz sc rc wc cc rt).length<=15:=by
 unfold headV
 have h1:=szB_len sc sz
 have h2:=rtB_len rc rt
 have h3:=codB_len nm h
 have h4:=wideN_bd nm h
 have h5:(head4 v.toNat sc rc cc wc).length=4:=rfl
 simp only [zL]
 omega
theorem u64n (n:Nat) (h:n<18446744073709551616):IntKind.u64.wrap (n:Int)=(n:Int):=u64_id (by omega)
theorem bBe_n (n w:Nat) (h1:1<=w) (hw:w<=7) (hf:n<256 ^ w):LQ.bBe (n:Int) (w:Int)=some (beB n w,0):=by
 refine bBe_eq n w h1 (by omega) ?_ (fun _=>hf)
 have:256 ^ w<=256 ^ 7:=Nat.pow_le_pow_right (by decide) hw
 have e:(256:Nat) ^ 7=72057594037927936:=by decide
 omega
theorem bifP {A B:Type} (b:Bool) (x y:A) (r:B):(bif b then some (x,r) else some (y,r))=some ((bif b then x else y),r):=by cases b<;>rfl
theorem fHead_eq (v:Bool) (nm sz sc rc wc md rt ch:Nat) (w:Int) (subs:List SubD) (i0 i1 i2 i3 i7:Int) (i8:List UInt8) (hnm:nm<68719476736) (hsz:1<=sz/\sz<=4608) (hsc:sc<16) (hrc:rc<16) (hwc:wc<8) (hmd:md<=3) (hch:1<=ch/\ch<=8) (hrt:rt<9223372036854775808) (hfs:fsizeOk sc sz=true) (hra:rateOk rc rt=true) :
  LQ.fHead (v,(nm:Int),(sz:Int),(sc:Int),(rc:Int),(wc:Int),(md:Int),subs,()) (i0,i1,i2,i3,(rt:Int),(ch:Int),w,i7,i8,())=some (headS v nm sz sc rc wc (if md=0 then ch - 1 else 7+md) rt):=by
 generalize hcc:(if md=0 then ch - 1 else 7+md)=cc
 have hcl:cc<16:=by rw [←hcc];split<;>omega
 have hcI:(bif ((md:Int) != 0) then w64 (7+(md:Int)) else w64 ((ch:Int) - 1))=(cc:Int):=by
  rw [←hcc]
  by_cases e:md=0
  ·rw [if_pos e,show ((md:Int) != 0)=false from by rw [e];rfl,zc,w64_id (by omega)];omega
  ·rw [if_neg e,show ((md:Int) != 0)=true from by rw [bne_iff_ne];omega,zC,w64_id (by omega)];omega
 have p1:LQ.put1 (32764,15) 0 []=some (0,(15:Int),pk (bitsOf 32764 15)):=put1_eq [] 32764 15 (by decide) (by decide) (by decide)
 have hv2:v.toNat<2:=by cases v<;>decide
 have p2':=put1_eq (bitsOf 32764 15) v.toNat 1 hv2 (by decide) (by rw [zG];decide)
 have p3:=put1_eq (bitsOf 32764 15++bitsOf v.toNat 1) sc 4 hsc (by decide) (by simp only [zL,zG];decide)
 have p4:=put1_eq ((bitsOf 32764 15++bitsOf v.toNat 1)++bitsOf sc 4) rc 4 hrc (by decide) (by simp only [zL,zG];decide)
 have p5:=put1_eq (((bitsOf 32764 15++bitsOf v.toNat 1)++bitsOf sc 4)++bitsOf rc 4) cc 4 hcl (by decide) (by simp only [zL,zG];decide)
 have p6:=put1_eq ((((bitsOf 32764 15++bitsOf v.toNat 1)++bitsOf sc 4)++bitsOf rc 4)++bitsOf cc 4) wc 3 hwc (by decide) (by simp only [zL,zG];decide)
 have p7:=put1_eq (((((bitsOf 32764 15++bitsOf v.toNat 1)++bitsOf sc 4)++bitsOf rc 4)++bitsOf cc 4)++bitsOf wc 3) 0 1 (by decide) (by decide) (by simp only [zL,zG];decide)
 have hb:pk ((((((bitsOf 32764 15++bitsOf v.toNat 1)++bitsOf sc 4)++bitsOf rc 4)++bitsOf cc 4)++bitsOf wc 3)++bitsOf 0 1)=head4 v.toNat sc rc cc wc:=pk_head _ _ _ _ _ hv2 hsc hrc hcl hwc
 simp only [zL,zG] at p2' p3 p4 p5 p6 p7
 rw [hb] at p7
 have hco:=Coded_eq nm hnm
 have hcol:=codB_len nm hnm
 obtain ⟨_,hw7,_,_⟩:=wideN_bd nm hnm
 have hex:=extra_eq (rc:Int)
 have hvI:(bif v then (1:Int) else 0)=((v.toNat:Nat):Int):=by cases v<;>rfl
 have hl4:(head4 v.toNat sc rc cc wc).length=4:=rfl
 have w3:LQ.put1 (IntKind.u64.wrap (sc:Int),4) _ _=_:=(congrArg (fun z=>LQ.put1 (z,4) _ _) (u64n sc (by omega))).trans p3
 have w4:LQ.put1 (IntKind.u64.wrap (rc:Int),4) _ _=_:=(congrArg (fun z=>LQ.put1 (z,4) _ _) (u64n rc (by omega))).trans p4
 have w5:LQ.put1 (IntKind.u64.wrap (cc:Int),4) _ _=_:=(congrArg (fun z=>LQ.put1 (z,4) _ _) (u64n cc (by omega))).trans p5
 have w6:LQ.put1 (IntKind.u64.wrap (wc:Int),3) _ _=_:=(congrArg (fun z=>LQ.put1 (z,3) _ _) (u64n wc (by omega))).trans p6
 have hS:(bif ((sc:Int) == 6) then some (true,((v,(nm:Int),(sz:Int),(sc:Int),(rc:Int),(wc:Int),(md:Int),subs),i0,i1,i2,i3,(rt:Int),(ch:Int),w,i7,i8)) else some (((sc:Int) == 7),((v,(nm:Int),(sz:Int),(sc:Int),(rc:Int),(wc:Int),(md:Int),subs),i0,i1,i2,i3,(rt:Int),(ch:Int),w,i7,i8)))=some (decide (sc=6\/sc=7),((v,(nm:Int),(sz:Int),(sc:Int),(rc:Int),(wc:Int),(md:Int),subs),i0,i1,i2,i3,(rt:Int),(ch:Int),w,i7,i8)):=by
  rw [bifP]
  congr 2
  by_cases h6:sc=6
  ·subst h6;rfl
  ·rw [show ((sc:Int) == 6)=false from by rw [beq_eq_false_iff_ne];omega,zc]
   by_cases h7:sc=7
   ·subst h7;rfl
   ·rw [show ((sc:Int) == 7)=false from by rw [beq_eq_false_iff_ne];omega,zF (by omega)]
 have hSB:(Tr.br (decide (sc=6\/sc=7)) (Tr.bind (List UInt8×Int) (LQ.bBe (w64 ((sz:Int) - 1)) (w64 ((sc:Int) - 5))) ([],0) fun (r13:List UInt8×Int)=>Tr.need (((head4 v.toNat sc rc cc wc).append (codB nm)).length+r13.1.length<=4611686018427387904) (Tr.ret (((head4 v.toNat sc rc cc wc).append (codB nm)).append r13.1,(v,(nm:Int),(sz:Int),(sc:Int),(rc:Int),(wc:Int),(md:Int),subs),i0,i1,i2,i3,(rt:Int),(ch:Int),w,i7,i8))) (Tr.ret ((head4 v.toNat sc rc cc wc).append (codB nm),(v,(nm:Int),(sz:Int),(sc:Int),(rc:Int),(wc:Int),(md:Int),subs),i0,i1,i2,i3,(rt:Int),(ch:Int),w,i7,i8))).run=some ((head4 v.toNat sc rc cc wc++codB nm)++szB sc sz,(v,(nm:Int),(sz:Int),(sc:Int),(rc:Int),(wc:Int),(md:Int),subs),i0,i1,i2,i3,(rt:Int),(ch:Int),w,i7,i8):=by
  have hz1:w64 ((sz:Int) - 1)=((sz - 1:Nat):Int):=by rw [w64_id (by omega)];omega
  rw [Tr.rR]
  unfold szB
  by_cases h6:sc=6
  ·subst h6
   have hf:sz<=256:=by
    have:decide ((sz:Int)<=256)=true:=hfs
    have:=of_decide_eq_true this
    omega
   have hbe:=bBe_n (sz - 1) 1 (by decide) (by decide) (by omega)
   rw [if_pos rfl,zT (.inl rfl),zC,Tr.rB,hz1]
   refine (bindT hbe).trans ?_
   rw [Tr.rN _ (by rw [List.append_eq,zL,hl4,hcol,beB_len];omega)]
   rfl
  ·rw [if_neg h6]
   by_cases h7:sc=7
   ·subst h7
    have hbe:=bBe_n (sz - 1) 2 (by decide) (by decide) (by omega)
    rw [if_pos rfl,zT (.inr rfl),zC,Tr.rB,hz1]
    refine (bindT hbe).trans ?_
    rw [Tr.rN _ (by rw [List.append_eq,zL,hl4,hcol,beB_len];omega)]
    rfl
   ·rw [if_neg h7,zF (by omega),zc,List.append_nil]
    rfl
 have hl2:((head4 v.toNat sc rc cc wc++codB nm)++szB sc sz).length<=13:=by
  have:=szB_len sc sz
  rw [zL,zL,hl4,hcol];omega
 have hRB:(Tr.br (decide ((extraN (rc:Int)).1>0)) (Tr.need ((extraN (rc:Int)).2≠0) (Tr.bind (List UInt8×Int) (LQ.bBe (w64 ((rt:Int).tdiv (extraN (rc:Int)).2)) (extraN (rc:Int)).1) ([],0) fun (r16:List UInt8×Int)=>Tr.need (((head4 v.toNat sc rc cc wc++codB nm)++szB sc sz).length+r16.1.length<=4611686018427387904) (Tr.ret (((head4 v.toNat sc rc cc wc++codB nm)++szB sc sz).append r16.1)))) (Tr.ret ((head4 v.toNat sc rc cc wc++codB nm)++szB sc sz))).run=some (headV v nm sz sc rc wc cc rt):=by
  have hD:∀ u:Nat,(rt:Int).tdiv (u:Int)=((rt / u:Nat):Int):=fun u=>by
   rw [Int.tdiv_eq_ediv_of_nonneg (by omega),Int.natCast_ediv]
  have hdl:∀ u:Nat,rt / u<=rt:=fun u=>Nat.div_le_self _ _
  unfold headV rtB
  by_cases h12:rc=12
  ·subst h12
   have hf:(rt:Int) % 1000=0/\(rt:Int) / 1000<256:=of_decide_eq_true hra
   have hbe:=bBe_n (rt / 1000) 1 (by decide) (by decide) (by omega)
   have e:w64 ((rt:Int).tdiv ((1000:Nat):Int))=((rt / 1000:Nat):Int):=by rw [hD,w64_id (by have:=hdl 1000;omega)]
   rw [if_pos rfl,Tr.rR]
   show (Tr.need ((1000:Int)≠0) _).run=_
   rw [Tr.rN _ (by decide),Tr.rB]
   refine (bindT ((congrArg (fun z=>LQ.bBe z 1) e).trans hbe)).trans ?_
   rw [Tr.rN _ (by rw [beB_len];omega)]
   rfl
  ·rw [if_neg h12]
   by_cases h13:rc=13
   ·subst h13
    have hf:(rt:Int)<65536:=by
     unfold rateOk at hra
     rw [if_neg (by decide),if_pos (by decide)] at hra
     exact of_decide_eq_true hra
    have hbe:=bBe_n rt 2 (by decide) (by decide) (by omega)
    have e:w64 ((rt:Int).tdiv ((1:Nat):Int))=(rt:Int):=by rw [hD,Nat.div_one,w64_id (by omega)]
    rw [if_pos rfl,Tr.rR]
    show (Tr.need ((1:Int)≠0) _).run=_
    rw [Tr.rN _ (by decide),Tr.rB]
    refine (bindT ((congrArg (fun z=>LQ.bBe z 2) e).trans hbe)).trans ?_
    rw [Tr.rN _ (by rw [beB_len];omega)]
    rfl
   ·rw [if_neg h13]
    by_cases h14:rc=14
    ·subst h14
     have hf:(rt:Int) % 10=0/\(rt:Int) / 10<65536:=by
      unfold rateOk at hra
      rw [if_neg (by decide),if_neg (by decide),if_pos (by decide)] at hra
      exact of_decide_eq_true hra
     have hbe:=bBe_n (rt / 10) 2 (by decide) (by decide) (by omega)
     have e:w64 ((rt:Int).tdiv ((10:Nat):Int))=((rt / 10:Nat):Int):=by rw [hD,w64_id (by have:=hdl 10;omega)]
     rw [if_pos rfl,Tr.rR]
     show (Tr.need ((10:Int)≠0) _).run=_
     rw [Tr.rN _ (by decide),Tr.rB]
     refine (bindT ((congrArg (fun z=>LQ.bBe z 2) e).trans hbe)).trans ?_
     rw [Tr.rN _ (by rw [beB_len];omega)]
     rfl
    ·have e:extraN (rc:Int)=(0,0):=by
      unfold extraN
      rw [if_neg (by omega),if_neg (by omega),if_neg (by omega)]
     rw [if_neg h14,e,List.append_nil]
     rfl
 have hvl:=headV_len v nm sz sc rc wc cc rt hnm
 have hcr:=Crc8_eq (headV v nm sz sc rc wc cc rt) (by omega)
 have hc8:=c8_lt (headV v nm sz sc rc wc cc rt)
 have hcm:(((c8 (headV v nm sz sc rc wc cc rt):Nat):Int) % 256).toNat=c8 (headV v nm sz sc rc wc cc rt):=by omega
 unfold LQ.fHead LQ.fHead.t
 rw [Tr.rB]
 refine (bindT (a:=((0:Int),([]:List UInt8))) rfl).trans ?_
 rw [Tr.rB]
 refine (bindT p1).trans ?_
 rw [Tr.rB]
 refine (bindT (a:=(((v.toNat:Nat):Int),(v,(nm:Int),(sz:Int),(sc:Int),(rc:Int),(wc:Int),(md:Int),subs),(i0,i1,i2,i3,(rt:Int),(ch:Int),w,i7,i8),((15:Nat):Int),pk (bitsOf 32764 15))) (by cases v<;>rfl)).trans ?_
 rw [Tr.rB]
 refine (bindT (a:=((cc:Int),(v,(nm:Int),(sz:Int),(sc:Int),(rc:Int),(wc:Int),(md:Int),subs),(i0,i1,i2,i3,(rt:Int),(ch:Int),w,i7,i8),((15:Nat):Int),pk (bitsOf 32764 15))) ((bifP _ _ _ _).trans (congrArg (fun z=>some (z,_)) hcI))).trans ?_
 rw [Tr.rB]
 refine (bindT p2').trans ?_
 rw [Tr.rB]
 refine (bindT w3).trans ?_
 rw [Tr.rB]
 refine (bindT w4).trans ?_
 rw [Tr.rB]
 refine (bindT w5).trans ?_
 rw [Tr.rB]
 refine (bindT w6).trans ?_
 rw [Tr.rB]
 refine (bindT p7).trans ?_
 rw [Tr.rB]
 refine (bindT hco).trans ?_
 rw [Tr.rB]
 refine (bindT (a:=(head4 v.toNat sc rc cc wc,((15+1+4+4+4+3+1:Nat):Int),head4 v.toNat sc rc cc wc)) rfl).trans ?_
 rw [Tr.rN _ (by rw [hl4,hcol];omega),Tr.rB]
 refine (bindT hS).trans ?_
 rw [Tr.rB]
 refine (bindT hSB).trans ?_
 rw [Tr.rB]
 refine (bindT hex).trans ?_
 rw [Tr.rB]
 refine (bindT hRB).trans ?_
 rw [Tr.rB]
 refine (bindT hcr).trans ?_
 rw [hcm,Tr.rN _ (by show (headV v nm sz sc rc wc cc rt).length+1<=_;omega)]
 rfl
end
section
set_option maxRecDepth 100000
open Go.LM
def seg (s:List UInt8) (a n:Nat):List UInt8:=(s.drop a).take n
theorem seg_len (s:List UInt8) (a n:Nat) (h:a+n<=s.length):(seg s a n).length=n:=by
 unfold seg;rw [List.length_take,List.length_drop];omega
theorem take1_yes (n:Nat) (s:List UInt8) (a:Nat) (hn:n<=7) (hs:s.length<=4611686018427387904) (h:a+n<=s.length):LQ.take1 (n:Int) s (a:Int)=some ((((beV (seg s a n):Nat):Int),true),s,((a+n:Nat):Int)):=by
 have h1:w64 (Int.ofNat s.length - (a:Int))=((s.length - a:Nat):Int):=by simp only [zN];rw [w64_id (by omega)];omega
 have h2:w64 ((a:Int)+(n:Int))=((a+n:Nat):Int):=by rw [w64_id (by omega)];omega
 have h3:w64 (((a+n:Nat):Int) - (n:Int))=(a:Int):=by rw [w64_id (by omega)];omega
 have h4:(0:Int)<=(a:Int)/\(a:Int)<=((a+n:Nat):Int)/\((a+n:Nat):Int)<=Int.ofNat s.length:=by simp only [zN];omega
 have h5:(((a+n:Nat):Int) - (a:Int)).toNat=n:=by omega
 have h6:=bFromBe_eq (seg s a n) (by rw [seg_len s a n h];omega)
 unfold LQ.take1 LQ.take1.t
 rw [Tr.rR,h1,zF (by omega),zc,h2,h3,Tr.rN _ h4,Tr.rB,h5,Int.toNat_natCast]
 refine (bindT h6).trans ?_
 rfl
theorem take1_no (n:Nat) (s:List UInt8) (a:Nat) (hn:n<=7) (hs:s.length<=4611686018427387904) (ha:a<=s.length) (h:¬ a+n<=s.length):LQ.take1 (n:Int) s (a:Int)=some ((0,false),s,(a:Int)):=by
 have h1:w64 (Int.ofNat s.length - (a:Int))=((s.length - a:Nat):Int):=by simp only [zN];rw [w64_id (by omega)];omega
 unfold LQ.take1 LQ.take1.t
 rw [Tr.rR,h1,zT (by omega)]
 rfl
abbrev BegD:=Bool×Int×Int×Int×Int×Int×Int×Int×Int×Int
def h1B (b:UInt8):Bool:=decide (b.toNat / 2≠124)
theorem h1_num:∀ b:UInt8,(Int.ofNat (UInt8.ofNat (bitsI BinOp.andNot IntKind.u8 (Int.ofNat b.toNat) (1:Int) % (256:Int)).toNat).toNat != (248:Int))=h1B b:=u8_every (by decide +kernel)
theorem h3_num:∀ b:UInt8,(Int.ofNat (UInt8.ofNat (bitsI BinOp.and IntKind.u8 (Int.ofNat b.toNat) (1:Int) % (256:Int)).toNat).toNat != (0:Int))=decide (b.toNat % 2≠0):=u8_every (by decide +kernel)
theorem hv_num:∀ b:UInt8,(Int.ofNat (UInt8.ofNat (bitsI BinOp.and IntKind.u8 (Int.ofNat b.toNat) (1:Int) % (256:Int)).toNat).toNat == (1:Int))=decide (b.toNat % 2=1):=u8_every (by decide +kernel)
theorem hs_num:∀ b:UInt8,w64 (Int.ofNat (UInt8.ofNat (Int.ofNat b.toNat / (16:Int) % (256:Int)).toNat).toNat)=((b.toNat / 16:Nat):Int):=u8_every (by decide +kernel)
theorem hr_num:∀ b:UInt8,w64 (Int.ofNat (UInt8.ofNat (bitsI BinOp.and IntKind.u8 (Int.ofNat b.toNat) (15:Int) % (256:Int)).toNat).toNat)=((b.toNat % 16:Nat):Int):=u8_every (by decide +kernel)
theorem hw_num:∀ b:UInt8,w64 (Int.ofNat (UInt8.ofNat (bitsI BinOp.and IntKind.u8 (Int.ofNat (UInt8.ofNat (Int.ofNat b.toNat / (2:Int) % (256:Int)).toNat).toNat) (7:Int) % (256:Int)).toNat).toNat)=((b.toNat / 2 % 8:Nat):Int):=u8_every (by decide +kernel)
theorem h0_num:∀ b:UInt8,(Int.ofNat b.toNat != (255:Int))=decide (b.toNat≠255):=u8_every (by decide +kernel)
def head4B (s:List UInt8):Bool:=decide (s.length<5)||(decide ((s.getD 0 0).toNat≠255)||(h1B (s.getD 1 0)||decide ((s.getD 3 0).toNat % 2≠0)))
def rdSz (s:List UInt8) (sc a:Nat):Option (Int×Nat):=if sc=6\/sc=7 then (if a+(sc - 5)<=s.length then some (((beV (seg s a (sc - 5))+1:Nat):Int),a+(sc - 5)) else none) else some (sizeN sc,a)
def exW (rc:Nat):Nat:=if rc=12 then 1 else if rc=13 then 2 else if rc=14 then 2 else 0
def exU (rc:Nat):Nat:=if rc=12 then 1000 else if rc=13 then 1 else if rc=14 then 10 else 0
theorem ex_eq (rc:Nat):extraN (rc:Int)=((exW rc:Int),(exU rc:Int)):=by
 unfold extraN exW exU
 by_cases h1:rc=12
 ·subst h1;rfl
 ·by_cases h2:rc=13
  ·subst h2;rfl
  ·by_cases h3:rc=14
   ·subst h3;rfl
   ·rw [if_neg (by omega),if_neg (by omega),if_neg (by omega),if_neg h1,if_neg h1,if_neg h2,if_neg h2,if_neg h3,if_neg h3];rfl
def rdRt (s:List UInt8) (rc a:Nat):Option (Int×Nat):=if 0<exW rc then (if a+exW rc<=s.length then some (((beV (seg s a (exW rc))*exU rc:Nat):Int),a+exW rc) else none) else some (if rc<12 then ratesT.getD rc 0 else 0,a)
def readV (s:List UInt8):BegD×Bool:=
 if head4B s=true then ((false,0,0,0,0,0,0,0,0,0),false) else
 let v:=decide ((s.getD 1 0).toNat % 2=1)
 let sc:=(s.getD 2 0).toNat / 16
 let rc:=(s.getD 2 0).toNat % 16
 let wc:=(s.getD 3 0).toNat / 2 % 8
 let cc:=(s.getD 3 0).toNat / 16
 let u:=uncV (s.drop 4)
 if u.2.2≠0\/(v=false/\u.1>=2147483648) then ((v,0,0,(sc:Int),(rc:Int),(wc:Int),0,0,(cc:Int),0),false) else
 match rdSz s sc (4+u.2.1.toNat) with
 |none=>((v,u.1,sizeN sc,(sc:Int),(rc:Int),(wc:Int),0,0,(cc:Int),0),false)
 |some (sz,a1)=>match rdRt s rc a1 with
  |none=>((v,u.1,sz,(sc:Int),(rc:Int),(wc:Int),0,0,(cc:Int),0),false)
  |some (rt,a2)=>if a2+1<=s.length then ((v,u.1,sz,(sc:Int),(rc:Int),(wc:Int),0,rt,(cc:Int),((a2+1:Nat):Int)),(((beV (seg s a2 1):Nat):Int) == ((c8 (s.take a2):Nat):Int))) else ((v,u.1,sz,(sc:Int),(rc:Int),(wc:Int),0,rt,(cc:Int),(a2:Int)),false)
theorem uncV_bd (t:List UInt8) (h:(uncV t).2.2=0):0<=(uncV t).1/\(uncV t).1<68719476736/\1<=(uncV t).2.1/\(uncV t).2.1<=(t.length:Int)/\(uncV t).2.1<=7:=by
 cases t with
 |nil=>exact absurd h (by decide)
 |cons b l=>
  have hb:=b.toNat_lt
  rw [uncV_cons] at h ⊢
  have hlen:((b::l).length:Int)=(l.length:Int)+1:=by simp
  rw [hlen]
  by_cases h0:onesN b.toNat=0
  ·rw [if_pos h0];simp only;omega
  ·rw [if_neg h0] at h ⊢
   by_cases h1:onesN b.toNat=1\/onesN b.toNat=8
   ·rw [if_pos h1] at h;exact absurd h (by decide)
   ·rw [if_neg h1] at h ⊢
    have h8:=(first_num b).1
    cases hu:uncL (onesN b.toNat - 1) l (b.toNat % 2 ^ (7 - onesN b.toNat)) with
    |inl e=>
     rw [hu] at h
     exfalso
     have:∀ (m:Nat) (l:List UInt8) (n:Nat) (e:Int×Int×Int),uncL m l n=.inl e->e.2.2≠0:=by
      intro m
      induction m with
      |zero=>intro l n e h;unfold uncL at h;cases h
      |succ m ih=>
       intro l n e h
       cases l with
       |nil=>unfold uncL at h;cases h;decide
       |cons c l=>
        rw [uncL_cons] at h
        split at h
        ·cases h;decide
        ·exact ih _ _ _ h
     exact this _ _ _ _ hu h
    |inr n=>
     rw [hu] at h
     simp only at h ⊢
     have hbd:=uncL_bd _ _ _ (2 ^ (7 - onesN b.toNat)) _ (Nat.mod_lt _ (Nat.two_pow_pos _)) hu
     have hpow:2 ^ (7 - onesN b.toNat)*64 ^ (onesN b.toNat - 1)<=68719476736:=by
      rw [show (64:Nat)=2 ^ 6 from rfl,←Nat.pow_mul,←Nat.pow_add]
      exact Nat.le_trans (Nat.pow_le_pow_right (by decide) (show 7 - onesN b.toNat+6*(onesN b.toNat - 1)<=36 by omega)) (by decide)
     have hll:∀ (m:Nat) (l:List UInt8) (n r:Nat),uncL m l n=.inr r->m<=l.length:=by
      intro m
      induction m with
      |zero=>intro l n r h;omega
      |succ m ih=>
       intro l n r h
       cases l with
       |nil=>unfold uncL at h;cases h
       |cons c l=>
        rw [uncL_cons] at h
        split at h
        ·cases h
        ·have:=ih _ _ _ h
         rw [List.length_cons];omega
     have hl2:=hll _ _ _ _ hu
     by_cases hw:wideN n=onesN b.toNat
     ·rw [if_pos hw];simp only;omega
     ·rw [if_neg hw] at h;exact absurd h (by decide)
theorem readN_eq (s:List UInt8) (hs:s.length<=4611686018427387904):LQ.readN s=some (readV s):=by
 have hB:(Tr.br (decide (Int.ofNat s.length<(5:Int))) (Tr.ret (true,s,((false,0,0,0,0,0,0,0,0,0):BegD),((false,0,0,0,0,0,0,0,0,0):BegD))) (Tr.need ((0:Int)<=(0:Int)/\(0:Int)<Int.ofNat s.length) (Tr.br (Int.ofNat (s.getD (0:Nat) (0:UInt8)).toNat != (255:Int)) (Tr.ret (true,s,((false,0,0,0,0,0,0,0,0,0):BegD),((false,0,0,0,0,0,0,0,0,0):BegD))) (Tr.need ((0:Int)<=(1:Int)/\(1:Int)<Int.ofNat s.length) (Tr.br (Int.ofNat (UInt8.ofNat (bitsI BinOp.andNot IntKind.u8 (Int.ofNat (s.getD (1:Nat) (0:UInt8)).toNat) (1:Int) % (256:Int)).toNat).toNat != (248:Int)) (Tr.ret (true,s,((false,0,0,0,0,0,0,0,0,0):BegD),((false,0,0,0,0,0,0,0,0,0):BegD))) (Tr.need ((0:Int)<=(3:Int)/\(3:Int)<Int.ofNat s.length) (Tr.ret (Int.ofNat (UInt8.ofNat (bitsI BinOp.and IntKind.u8 (Int.ofNat (s.getD (3:Nat) (0:UInt8)).toNat) (1:Int) % (256:Int)).toNat).toNat != (0:Int),s,((false,0,0,0,0,0,0,0,0,0):BegD),((false,0,0,0,0,0,0,0,0,0):BegD))))))))).run=some (head4B s,s,(false,0,0,0,0,0,0,0,0,0),(false,0,0,0,0,0,0,0,0,0)):=by
  unfold head4B
  by_cases h5:s.length<5
  ·rw [Tr.rR,show decide (Int.ofNat s.length<(5:Int))=true from zT (by simp only [zN];omega),zT h5];rfl
  ·have n0:(0:Int)<=(0:Int)/\(0:Int)<Int.ofNat s.length:=by simp only [zN];omega
   have n1:(0:Int)<=(1:Int)/\(1:Int)<Int.ofNat s.length:=by simp only [zN];omega
   have n3:(0:Int)<=(3:Int)/\(3:Int)<Int.ofNat s.length:=by simp only [zN];omega
   rw [Tr.rR,show decide (Int.ofNat s.length<(5:Int))=false from zF (by simp only [zN];omega),zF h5,zc,Tr.rN _ n0,Tr.rR,h0_num]
   cases decide ((s.getD 0 0).toNat≠255) with
   |true=>rfl
   |false=>
    rw [zc,Tr.rN _ n1,Tr.rR,h1_num]
    cases h1B (s.getD 1 0) with
    |true=>rfl
    |false=>
     rw [zc,Tr.rN _ n3,Tr.rT,h3_num]
     rfl
 unfold LQ.readN LQ.readN.t
 rw [Tr.rB]
 refine (bindT hB).trans ?_
 clear hB
 unfold readV
 by_cases h4:head4B s=true
 ·rw [Tr.rR,h4];rfl
 have h4f:head4B s=false:=Bool.eq_false_iff.2 h4
 have hlen:5<=s.length:=by
  unfold head4B at h4f
  have:=(Bool.or_eq_false_iff.1 h4f).1
  have:=of_decide_eq_false this
  omega
 have n1:(0:Int)<=(1:Int)/\(1:Int)<Int.ofNat s.length:=by simp only [zN];omega
 have n2:(0:Int)<=(2:Int)/\(2:Int)<Int.ofNat s.length:=by simp only [zN];omega
 have n3:(0:Int)<=(3:Int)/\(3:Int)<Int.ofNat s.length:=by simp only [zN];omega
 have n4:(0:Int)<=(4:Int)/\(4:Int)<=Int.ofNat s.length/\Int.ofNat s.length<=Int.ofNat s.length:=by simp only [zN];omega
 have e4:(Int.ofNat s.length - (4:Int)).toNat=(s.drop 4).length:=by rw [List.length_drop];simp only [zN];omega
 have hU:=Uncoded_eq (s.drop 4) (by rw [List.length_drop];omega)
 rw [if_neg h4]
 rw [Tr.rR]
 show (bif head4B s then _ else _)=_
 rw [h4f,zc,Tr.rN _ n1,Tr.rN _ n2,Tr.rN _ n2,Tr.rN _ n3,Tr.rN _ n3,Tr.rN _ n4,Tr.rB]
 refine (bindT ((congrArg LQ.Uncoded (by rw [e4,List.take_length])).trans hU)).trans ?_
 simp only [hv_num,hs_num,hr_num,hw_num]
 generalize hv:decide ((s.getD 1 0).toNat % 2=1)=v
 generalize hsc:(s.getD 2 0).toNat / 16=sc
 generalize hrc:(s.getD 2 0).toNat % 16=rc
 generalize hwc:(s.getD 3 0).toNat / 2 % 8=wc
 generalize hcc:(s.getD 3 0).toNat / 16=cc
 have hscl:sc<=15:=by have:=(s.getD 2 0).toNat_lt;omega
 have hrcl:rc<=15:=by omega
 have hub:=uncV_bd (s.drop 4)
 rw [List.length_drop] at hub
 generalize huv:uncV (s.drop 4)=u at hub
 obtain ⟨un,uu,ue⟩:=u
 simp only at hub
 have hE:(Tr.br (ue != 0) (Tr.ret (true,s,((false,0,0,0,0,0,0,0,0,0):BegD),v,(0:Int),(0:Int),(sc:Int),(rc:Int),(wc:Int),(0:Int),(0:Int),(cc:Int),(0:Int))) (Tr.br (!v) (Tr.ret (decide (un>=2147483648),s,((false,0,0,0,0,0,0,0,0,0):BegD),v,(0:Int),(0:Int),(sc:Int),(rc:Int),(wc:Int),(0:Int),(0:Int),(cc:Int),(0:Int))) (Tr.ret (false,s,((false,0,0,0,0,0,0,0,0,0):BegD),v,(0:Int),(0:Int),(sc:Int),(rc:Int),(wc:Int),(0:Int),(0:Int),(cc:Int),(0:Int))))).run=some (decide (ue≠0\/(v=false/\un>=2147483648)),s,((false,0,0,0,0,0,0,0,0,0):BegD),v,(0:Int),(0:Int),(sc:Int),(rc:Int),(wc:Int),(0:Int),(0:Int),(cc:Int),(0:Int)):=by
  rw [Tr.rR,Tr.rT,Tr.rR,Tr.rT,Tr.rT]
  by_cases h:ue=0
  ·rw [show (ue != 0)=false from by rw [h];rfl,zc]
   cases v with
   |true=>rw [zF (show ¬ (ue≠0\/(true=false/\un>=2147483648)) from fun c=>c.elim (fun c=>c h) (fun c=>Bool.noConfusion c.1))];rfl
   |false=>
    simp only [Bool.not_false,zC]
    congr 2
    exact decide_eq_decide.2 (by simp [h])
  ·rw [show (ue != 0)=true from by rw [bne_iff_ne];exact h,zC,zT (.inl h)]
 rw [Tr.rB]
 refine (bindT hE).trans ?_
 simp only
 by_cases hbad:ue≠0\/(v=false/\un>=2147483648)
 ·rw [if_pos hbad,zT hbad];rfl
 rw [if_neg hbad,zF hbad,Tr.rR,zc,Tr.rB]
 have hue:ue=0:=by omega
 obtain ⟨q1,q2,q3,q4,q5⟩:=hub hue
 refine (bindT (sizeOf_eq (sc:Int) (by omega))).trans ?_
 have ha:w64 (4+uu)=((4+uu.toNat:Nat):Int):=by rw [w64_id (by omega)];omega
 generalize hat:4+uu.toNat=a0 at ha
 have ha0:a0<=s.length:=by omega
 rw [ha]
 rw [Tr.rB]
 refine (bindT (a:=(decide (sc=6\/sc=7),s,((false,0,0,0,0,0,0,0,0,0):BegD),(v,un,sizeN (sc:Int),(sc:Int),(rc:Int),(wc:Int),(0:Int),(0:Int),(cc:Int),(0:Int)),(a0:Int))) ?_).trans ?_
 ·refine (bifP _ _ _ _).trans ?_
  congr 2
  by_cases h6:sc=6
  ·subst h6;rfl
  ·rw [show ((sc:Int) == 6)=false from by rw [beq_eq_false_iff_ne];omega,zc]
   by_cases h7:sc=7
   ·subst h7;rfl
   ·rw [show ((sc:Int) == 7)=false from by rw [beq_eq_false_iff_ne];omega,zF (by omega)]
 have hS:(Tr.br (decide (sc=6\/sc=7)) (Tr.bind ((Int×Bool)×List UInt8×Int) (LQ.take1 (w64 ((sc:Int) - 5)) s (a0:Int)) (((0:Int),false),[],(0:Int)) fun (r5:(Int×Bool)×List UInt8×Int)=>Tr.br (!r5.1.2) (Tr.ret (Sum.inl (false,v,un,sizeN (sc:Int),(sc:Int),(rc:Int),(wc:Int),(0:Int),(0:Int),(cc:Int),(0:Int)))) (Tr.ret (Sum.inr (r5.2.1,((false,0,0,0,0,0,0,0,0,0):BegD),((v,un,w64 (r5.1.1+1),(sc:Int),(rc:Int),(wc:Int),(0:Int),(0:Int),(cc:Int),(0:Int)):BegD),r5.2.2)))) (Tr.ret (Sum.inr (s,((false,0,0,0,0,0,0,0,0,0):BegD),((v,un,sizeN (sc:Int),(sc:Int),(rc:Int),(wc:Int),(0:Int),(0:Int),(cc:Int),(0:Int)):BegD),(a0:Int))))).run=some (match rdSz s sc a0 with|none=>Sum.inl (false,v,un,sizeN (sc:Int),(sc:Int),(rc:Int),(wc:Int),(0:Int),(0:Int),(cc:Int),(0:Int))|some (sz,a1)=>Sum.inr (s,((false,0,0,0,0,0,0,0,0,0):BegD),((v,un,sz,(sc:Int),(rc:Int),(wc:Int),(0:Int),(0:Int),(cc:Int),(0:Int)):BegD),(a1:Int))):=by
  rw [Tr.rR]
  unfold rdSz
  by_cases h67:sc=6\/sc=7
  ·rw [zT h67,zC,if_pos h67,Tr.rB]
   have e5:w64 ((sc:Int) - 5)=((sc - 5:Nat):Int):=by rw [w64_id (by omega)];omega
   by_cases hl:a0+(sc - 5)<=s.length
   ·have ht:=take1_yes (sc - 5) s a0 (by omega) hs hl
    have hbv:=beV_lt (seg s a0 (sc - 5))
    rw [seg_len s a0 (sc - 5) hl] at hbv
    have hbv2:256 ^ (sc - 5)<=65536:=by
     have:256 ^ (sc - 5)<=256 ^ 2:=Nat.pow_le_pow_right (by decide) (by omega)
     omega
    rw [e5]
    refine (bindT ht).trans ?_
    rw [if_pos hl]
    simp only [Tr.rR,Bool.not_true,zc,Tr.rT]
    rw [w64_id (by omega)]
    rfl
   ·have ht:=take1_no (sc - 5) s a0 (by omega) hs ha0 hl
    rw [e5]
    refine (bindT ht).trans ?_
    rw [if_neg hl];rfl
  ·rw [zF h67,zc,if_neg h67];rfl
 rw [Tr.rB]
 refine (bindT hS).trans ?_
 have hSb:∀ sz a1,rdSz s sc a0=some (sz,a1)->a1<=s.length:=by
  intro sz a1 h
  unfold rdSz at h
  split at h
  ·split at h
   ·cases h;assumption
   ·cases h
  ·cases h;exact ha0
 cases hrs:rdSz s sc a0 with
 |none=>rfl
 |some q=>
 obtain ⟨sz,a1⟩:=q
 have ha1:=hSb _ _ hrs
 simp only
 rw [Tr.run_csr,Tr.rB]
 refine (bindT ((extra_eq (rc:Int)).trans (congrArg some (ex_eq rc)))).trans ?_
 have hexw:exW rc<=2:=by unfold exW;(repeat' split)<;>omega
 have hexu:exU rc<=1000:=by unfold exU;(repeat' split)<;>omega
 have hR:(Tr.br (decide ((exW rc:Int)>0)) (Tr.bind ((Int×Bool)×List UInt8×Int) (LQ.take1 (exW rc:Int) s (a1:Int)) (((0:Int),false),[],(0:Int)) fun (r10:(Int×Bool)×List UInt8×Int)=>Tr.br (!r10.1.2) (Tr.ret (Sum.inl (false,v,un,sz,(sc:Int),(rc:Int),(wc:Int),(0:Int),(0:Int),(cc:Int),(0:Int)))) (Tr.ret (Sum.inr (r10.2.1,((false,0,0,0,0,0,0,0,0,0):BegD),((v,un,sz,(sc:Int),(rc:Int),(wc:Int),(0:Int),w64 (r10.1.1*(exU rc:Int)),(cc:Int),(0:Int)):BegD),r10.2.2)))) (Tr.bind (List UInt8×BegD×BegD×Int) (Tr.br (decide ((rc:Int)<12)) (Tr.bind (List Int) LQ.rates [] fun (r11:List Int)=>Tr.need ((0:Int)<=(rc:Int)/\(rc:Int)<Int.ofNat r11.length) (Tr.ret (s,((false,0,0,0,0,0,0,0,0,0):BegD),((v,un,sz,(sc:Int),(rc:Int),(wc:Int),(0:Int),r11.getD (rc:Int).toNat (0:Int),(cc:Int),(0:Int)):BegD),(a1:Int)))) (Tr.ret (s,((false,0,0,0,0,0,0,0,0,0):BegD),((v,un,sz,(sc:Int),(rc:Int),(wc:Int),(0:Int),(0:Int),(cc:Int),(0:Int)):BegD),(a1:Int)))).run ([],(false,0,0,0,0,0,0,0,0,0),(false,0,0,0,0,0,0,0,0,0),(0:Int)) fun (r12:List UInt8×BegD×BegD×Int)=>Tr.ret (Sum.inr r12))).run=some (match rdRt s rc a1 with|none=>Sum.inl (false,v,un,sz,(sc:Int),(rc:Int),(wc:Int),(0:Int),(0:Int),(cc:Int),(0:Int))|some (rt,a2)=>Sum.inr (s,((false,0,0,0,0,0,0,0,0,0):BegD),((v,un,sz,(sc:Int),(rc:Int),(wc:Int),(0:Int),rt,(cc:Int),(0:Int)):BegD),(a2:Int))):=by
  rw [Tr.rR]
  unfold rdRt
  by_cases hw:0<exW rc
  ·rw [zT (show (exW rc:Int)>0 by omega),zC,if_pos hw,Tr.rB]
   by_cases hl:a1+exW rc<=s.length
   ·have ht:=take1_yes (exW rc) s a1 (by omega) hs hl
    have hbv:=beV_lt (seg s a1 (exW rc))
    rw [seg_len s a1 (exW rc) hl] at hbv
    have hbv2:256 ^ (exW rc)<=65536:=by
     have:256 ^ (exW rc)<=256 ^ 2:=Nat.pow_le_pow_right (by decide) (by omega)
     omega
    have hmul:beV (seg s a1 (exW rc))*exU rc<=65536*1000:=Nat.mul_le_mul (by omega) hexu
    refine (bindT ht).trans ?_
    rw [if_pos hl]
    simp only [Tr.rR,Bool.not_true,zc,Tr.rT]
    rw [←Int.natCast_mul,w64_id (by omega)]
   ·have ht:=take1_no (exW rc) s a1 (by omega) hs ha1 hl
    refine (bindT ht).trans ?_
    rw [if_neg hl];rfl
  ·rw [zF (show ¬ (exW rc:Int)>0 by omega),zc,if_neg hw,Tr.rB,Tr.rR]
   by_cases h12:rc<12
   ·rw [zT (show (rc:Int)<12 by omega),zC,Tr.rB]
    have hn:(0:Int)<=(rc:Int)/\(rc:Int)<Int.ofNat ratesT.length:=⟨by omega,by show (rc:Int)<12;omega⟩
    refine (congrArg (fun x=>Option.bind x _) (bindT rates_eq)).trans ?_
    rw [Tr.rN _ hn,Int.toNat_natCast]
    simp only [h12,if_true]
    rfl
   ·rw [zF (show ¬ (rc:Int)<12 by omega),zc]
    simp only [h12,if_false]
    rfl
 rw [Tr.rB]
 refine (bindT hR).trans ?_
 have hRb:∀ rt a2,rdRt s rc a1=some (rt,a2)->a2<=s.length:=by
  intro rt a2 h
  unfold rdRt at h
  split at h
  ·split at h
   ·cases h;assumption
   ·cases h
  ·cases h;exact ha1
 cases hrr:rdRt s rc a1 with
 |none=>rfl
 |some q=>
 obtain ⟨rt,a2⟩:=q
 have ha2:=hRb _ _ hrr
 simp only
 rw [Tr.run_csr,Tr.rB]
 by_cases hl:a2+1<=s.length
 ·have ht:LQ.take1 1 s (a2:Int)=_:=take1_yes 1 s a2 (by omega) hs hl
  refine (bindT ht).trans ?_
  rw [if_pos hl,Tr.rB,Tr.rR,zC]
  have e1:w64 (((a2+1:Nat):Int) - 1)=(a2:Int):=by rw [w64_id (by omega)];omega
  have hn:(0:Int)<=0/\(0:Int)<=(a2:Int)/\(a2:Int)<=Int.ofNat s.length:=by simp only [zN];omega
  have e2:((a2:Int) - 0).toNat=a2:=by omega
  simp only [e1]
  rw [Tr.rN _ hn,e2,List.drop_zero,Tr.rB]
  have hc:=Crc8_eq (s.take a2) (by rw [List.length_take];omega)
  refine (congrArg (fun x=>Option.bind x _) (bindT hc)).trans ?_
  rfl
 ·have ht:LQ.take1 1 s (a2:Int)=_:=take1_no 1 s a2 (by omega) hs ha2 hl
  refine (bindT ht).trans ?_
  rw [if_neg hl];rfl
end
section
set_option maxRecDepth 100000
open Go.LM
theorem seg_mid (a b c:List UInt8):seg (a++(b++c)) a.length b.length=b:=by
 unfold seg
 rw [List.drop_left,List.take_left]
theorem seg_mid' (s a b c:List UInt8) (i n:Nat) (h:s=a++(b++c)) (hi:i=a.length) (hn:n=b.length):seg s i n=b:=by
 subst h;subst hi;subst hn;exact seg_mid a b c
theorem readV_head (v:Bool) (nm sz sc rc wc cc rt:Nat) (rest:List UInt8) (hnm:nm<68719476736) (hnv:v=false->nm<2147483648) (hsz:1<=sz/\sz<=4608) (hsc:sc<16) (hrc:rc<16) (hwc:wc<8) (hcc:cc<16) (hfs:fsizeOk sc sz=true) (hra:rateOk rc rt=true) :
  readV (headS v nm sz sc rc wc cc rt++rest)=((v,(nm:Int),(sz:Int),(sc:Int),(rc:Int),(wc:Int),0,(if rc=0 then 0 else (rt:Int)),(cc:Int),(((headS v nm sz sc rc wc cc rt).length:Nat):Int)),true):=by
 generalize hs:headS v nm sz sc rc wc cc rt++rest=s
 have hcl:=codB_len nm hnm
 obtain ⟨w1,w7,_,_⟩:=wideN_bd nm hnm
 have hv2:v.toNat<2:=by cases v<;>decide
 have e0:s=head4 v.toNat sc rc cc wc++(codB nm++(szB sc sz++(rtB rc rt++([UInt8.ofNat (c8 (headV v nm sz sc rc wc cc rt))]++rest)))):=by
  rw [←hs];unfold headS headV;simp only [List.append_assoc]
 have e1:s=(head4 v.toNat sc rc cc wc++codB nm)++(szB sc sz++(rtB rc rt++([UInt8.ofNat (c8 (headV v nm sz sc rc wc cc rt))]++rest))):=by
  rw [e0];simp only [List.append_assoc]
 have e2:s=((head4 v.toNat sc rc cc wc++codB nm)++szB sc sz)++(rtB rc rt++([UInt8.ofNat (c8 (headV v nm sz sc rc wc cc rt))]++rest)):=by
  rw [e1];simp only [List.append_assoc]
 have e3:s=headV v nm sz sc rc wc cc rt++([UInt8.ofNat (c8 (headV v nm sz sc rc wc cc rt))]++rest):=by
  rw [e2];unfold headV;simp only [List.append_assoc]
 have l0:(head4 v.toNat sc rc cc wc).length=4:=rfl
 have g0:s.getD 0 0=255:=by rw [e0];rfl
 have g1:s.getD 1 0=UInt8.ofNat (248+v.toNat):=by rw [e0];rfl
 have g2:s.getD 2 0=UInt8.ofNat (sc*16+rc):=by rw [e0];rfl
 have g3:s.getD 3 0=UInt8.ofNat (cc*16+wc*2):=by rw [e0];rfl
 have n1:(s.getD 1 0).toNat=248+v.toNat:=by rw [g1];simp;omega
 have n2:(s.getD 2 0).toNat=sc*16+rc:=by rw [g2];simp;omega
 have n3:(s.getD 3 0).toNat=cc*16+wc*2:=by rw [g3];simp;omega
 have hlen:5<=s.length:=by rw [e1];simp only [zL,l0,hcl];omega
 have h4:head4B s=false:=by
  unfold head4B h1B
  rw [zF (show ¬ s.length<5 by omega),g0,n1,n3,zF (show ¬ (248+v.toNat) / 2≠124 by omega),zF (show ¬ (cc*16+wc*2) % 2≠0 by omega)]
  rfl
 have hu:uncV (s.drop 4)=((nm:Int),(wideN nm:Int),0):=by
  have:s.drop 4=codB nm++(szB sc sz++(rtB rc rt++([UInt8.ofNat (c8 (headV v nm sz sc rc wc cc rt))]++rest))):=by rw [e0];rfl
  rw [this];exact uncV_back nm _ hnm
 have hS:rdSz s sc (4+wideN nm)=some ((sz:Int),4+wideN nm+(szB sc sz).length):=by
  have hl:(4+wideN nm)+(szB sc sz).length<=s.length:=by rw [e2];simp only [zL,l0,hcl];omega
  have hsg:=seg_mid' s _ _ _ (4+wideN nm) (szB sc sz).length e1 (by rw [zL,l0,hcl]) rfl
  unfold rdSz
  by_cases h6:sc=6
  ·subst h6
   have ez:szB 6 sz=beB (sz - 1) 1:=rfl
   have hf:sz<=256:=by
    have:decide ((sz:Int)<=256)=true:=hfs
    have:=of_decide_eq_true this
    omega
   rw [ez,beB_len] at hsg hl
   rw [if_pos (.inl rfl),ez,beB_len,if_pos hl,show 6 - 5=1 from rfl,hsg]
   unfold beB
   rw [beV_be _ _ (by omega),Nat.sub_add_cancel hsz.1]
  ·by_cases h7:sc=7
   ·subst h7
    have ez:szB 7 sz=beB (sz - 1) 2:=rfl
    rw [ez,beB_len] at hsg hl
    rw [if_pos (.inr rfl),ez,beB_len,if_pos hl,show 7 - 5=2 from rfl,hsg]
    unfold beB
    rw [beV_be _ _ (by omega),Nat.sub_add_cancel hsz.1]
   ·have ez:szB sc sz=[]:=by unfold szB;rw [if_neg h6,if_neg h7]
    have hf:sizeN (sc:Int)=(sz:Int):=by
     unfold fsizeOk at hfs
     rw [if_neg (by omega),if_neg (by omega)] at hfs
     exact (of_decide_eq_true hfs).2.2
    rw [if_neg (by omega),hf,ez];rfl
 have hvl:(headV v nm sz sc rc wc cc rt).length=4+wideN nm+(szB sc sz).length+(rtB rc rt).length:=by
  unfold headV;simp only [zL,l0,hcl]
 have hR:rdRt s rc (4+wideN nm+(szB sc sz).length)=some ((if rc=0 then 0 else (rt:Int)),(headV v nm sz sc rc wc cc rt).length):=by
  have hl:(4+wideN nm+(szB sc sz).length)+(rtB rc rt).length<=s.length:=by rw [e3];rw [zL,hvl];omega
  have hsg:=seg_mid' s _ _ _ (4+wideN nm+(szB sc sz).length) (rtB rc rt).length e2 (by rw [zL,zL,l0,hcl]) rfl
  rw [hvl]
  unfold rdRt
  by_cases h12:rc=12
  ·subst h12
   have er:rtB 12 rt=beB (rt / 1000) 1:=rfl
   have hf:(rt:Int) % 1000=0/\(rt:Int) / 1000<256:=of_decide_eq_true hra
   rw [er,beB_len] at hsg hl
   rw [show exW 12=1 from rfl,show exU 12=1000 from rfl,if_pos (by decide),er,beB_len,if_pos hl,hsg]
   unfold beB
   rw [beV_be _ _ (by omega),if_neg (by decide),show rt / 1000*1000=rt by omega]
  ·by_cases h13:rc=13
   ·subst h13
    have er:rtB 13 rt=beB rt 2:=rfl
    have hf:(rt:Int)<65536:=by
     unfold rateOk at hra
     rw [if_neg (by decide),if_pos (by decide)] at hra
     exact of_decide_eq_true hra
    rw [er,beB_len] at hsg hl
    rw [show exW 13=2 from rfl,show exU 13=1 from rfl,if_pos (by decide),er,beB_len,if_pos hl,hsg]
    unfold beB
    rw [beV_be _ _ (by omega),if_neg (by decide),Nat.mul_one]
   ·by_cases h14:rc=14
    ·subst h14
     have er:rtB 14 rt=beB (rt / 10) 2:=rfl
     have hf:(rt:Int) % 10=0/\(rt:Int) / 10<65536:=by
      unfold rateOk at hra
      rw [if_neg (by decide),if_neg (by decide),if_pos (by decide)] at hra
      exact of_decide_eq_true hra
     rw [er,beB_len] at hsg hl
     rw [show exW 14=2 from rfl,show exU 14=10 from rfl,if_pos (by decide),er,beB_len,if_pos hl,hsg]
     unfold beB
     rw [beV_be _ _ (by omega),if_neg (by decide),show rt / 10*10=rt by omega]
    ·have er:rtB rc rt=[]:=by unfold rtB;rw [if_neg h12,if_neg h13,if_neg h14]
     have ew:exW rc=0:=by unfold exW;rw [if_neg h12,if_neg h13,if_neg h14]
     have hf:rc=0\/(rc<12/\ratesT.getD rc 0=(rt:Int)):=by
      unfold rateOk at hra
      rw [if_neg (by omega),if_neg (by omega),if_neg (by omega)] at hra
      rcases of_decide_eq_true hra with h|⟨h,h',h''⟩
      ·left;omega
      ·right
       rw [Int.toNat_natCast] at h''
       exact ⟨by omega,h''⟩
     rw [ew,if_neg (by decide),er]
     rcases hf with h0|⟨h1,h2⟩
     ·subst h0;rfl
     ·rw [if_pos h1,h2]
      by_cases h0:rc=0
      ·subst h0
       rw [if_pos rfl]
       have:(0:Int)=(rt:Int):=h2
       rw [←this];rfl
      ·rw [if_neg h0];rfl
 have hcs:=c8_lt (headV v nm sz sc rc wc cc rt)
 have hsg:=seg_mid' s _ _ _ (headV v nm sz sc rc wc cc rt).length 1 e3 rfl rfl
 have htk:s.take (headV v nm sz sc rc wc cc rt).length=headV v nm sz sc rc wc cc rt:=by rw [e3,List.take_left]
 have hll:(headV v nm sz sc rc wc cc rt).length+1<=s.length:=by rw [e3];simp only [zL,List.length_cons,List.length_nil];omega
 have hbv:beV [UInt8.ofNat (c8 (headV v nm sz sc rc wc cc rt))]=c8 (headV v nm sz sc rc wc cc rt):=by
  unfold beV
  simp only [List.foldl_cons,List.foldl_nil,Nat.zero_mul,Nat.zero_add]
  simp;omega
 have hvd:decide ((248+v.toNat) % 2=1)=v:=by cases v<;>decide
 unfold readV
 rw [if_neg (by rw [h4];decide),n1,n2,n3,hu]
 simp only [hvd,show (sc*16+rc) / 16=sc by omega,show (sc*16+rc) % 16=rc by omega,show (cc*16+wc*2) / 2 % 8=wc by omega,show (cc*16+wc*2) / 16=cc by omega,Int.toNat_natCast,hS,hR]
 rw [if_neg (by
  rintro (h|⟨h,h'⟩)
  ·exact h rfl
  ·have:=hnv h;omega),if_pos hll,hsg,htk,hbv]
 have hsl:(headS v nm sz sc rc wc cc rt).length=(headV v nm sz sc rc wc cc rt).length+1:=by
  unfold headS;rw [zL];rfl
 rw [hsl]
 congr 1
 simp
def lookV (sz sc rc wc rt cc irt ich iw:Int):Int×Int:=
 if sc=0 then (2,0) else if sz>4608 then (3,0) else if rc=15\/(rc≠0/\rt≠irt)\/cc>10 then (2,0) else
 if (if cc+1>8 then 2 else cc+1)≠ich\/(wc≠0/\widthT wc≠iw) then (2,(if cc+1>8 then cc - 7 else 0)) else (0,(if cc+1>8 then cc - 7 else 0))
theorem lookN_eq (v:Bool) (nm sz sc rc wc rt cc by_:Int) (i0 i1 i2 i3 irt ich iw i7:Int) (i8:List UInt8) (hcc:0<=cc/\cc<=15) (hwc:0<=wc/\wc<8) :
  LQ.lookN (i0,i1,i2,i3,irt,ich,iw,i7,i8,()) v nm sz sc rc wc 0 rt cc by_=some ((lookV sz sc rc wc rt cc irt ich iw).1,v,nm,sz,sc,rc,wc,(lookV sz sc rc wc rt cc irt ich iw).2,rt,cc,by_):=by
 have hww:=widthOf_eq wc hwc
 have hc1:w64 (cc+1)=cc+1:=w64_id (by omega)
 have hc7:w64 (cc - 7)=cc - 7:=w64_id (by omega)
 unfold LQ.lookN LQ.lookN.t lookV
 rw [Tr.rR]
 by_cases h0:sc=0
 ·rw [show (sc == 0)=true from by rw [h0];rfl,if_pos h0];rfl
 rw [show (sc == 0)=false from by rw [beq_eq_false_iff_ne];exact h0,zc,Tr.rR,if_neg h0]
 by_cases hz:sz>4608
 ·rw [zT hz,if_pos hz];rfl
 rw [zF hz,zc,if_neg hz,Tr.rB]
 have hA:∀ (X:Int×Int×Int×Int×Int×Int×Int×Int×List UInt8) (Y:BegD),(Tr.br (rc == 15) (Tr.ret (true,Y,X)) (Tr.br (rc != 0) (Tr.br (rt != irt) (Tr.ret (true,Y,X)) (Tr.ret (decide (cc>10),Y,X))) (Tr.ret (decide (cc>10),Y,X)))).run=some (decide (rc=15\/(rc≠0/\rt≠irt)\/cc>10),Y,X):=by
  intro X Y
  rw [Tr.rR,Tr.rT,Tr.rR,Tr.rR,Tr.rT,Tr.rT]
  by_cases h15:rc=15
  ·rw [show (rc == 15)=true from by rw [h15];rfl,zC,zT (.inl h15)]
  rw [show (rc == 15)=false from by rw [beq_eq_false_iff_ne];exact h15,zc]
  by_cases hr0:rc=0
  ·rw [show (rc != 0)=false from by rw [hr0];rfl,zc]
   congr 2
   exact decide_eq_decide.2 (by omega)
  rw [show (rc != 0)=true from by rw [bne_iff_ne];exact hr0,zC]
  by_cases hrt:rt=irt
  ·rw [show (rt != irt)=false from by rw [hrt];simp,zc]
   congr 2
   exact decide_eq_decide.2 (by omega)
  rw [show (rt != irt)=true from by rw [bne_iff_ne];exact hrt,zC,zT (.inr (.inl ⟨hr0,hrt⟩))]
 refine (bindT (hA _ _)).trans ?_
 simp only
 by_cases hb:rc=15\/(rc≠0/\rt≠irt)\/cc>10
 ·rw [zT hb,if_pos hb];rfl
 rw [zF hb,if_neg hb,Tr.rR,zc,Tr.rB,hc1,hc7]
 have fin:∀ (n md:Int),(Tr.bind (Bool×BegD) (Tr.br (n != ich) (Tr.ret (true,v,nm,sz,sc,rc,wc,md,rt,cc,by_)) (Tr.br (wc != 0) (Tr.bind Int (LQ.widthOf wc) (0:Int) fun (r2:Int)=>Tr.ret (r2 != iw,v,nm,sz,sc,rc,wc,md,rt,cc,by_)) (Tr.ret (false,v,nm,sz,sc,rc,wc,md,rt,cc,by_)))).run (false,false,0,0,0,0,0,0,0,0,0) fun (r3:Bool×BegD)=>Tr.br r3.1 (Tr.ret ((2:Int),r3.2)) (Tr.ret ((0:Int),r3.2))).run=some ((if n≠ich\/(wc≠0/\widthT wc≠iw) then (2:Int) else 0),v,nm,sz,sc,rc,wc,md,rt,cc,by_):=by
  intro n md
  rw [Tr.rB,Tr.rR,Tr.rT,Tr.rR,Tr.rB,hww]
  by_cases hn:n=ich
  ·rw [show (n != ich)=false from by rw [hn];simp,zc]
   by_cases hw0:wc=0
   ·rw [show (wc != 0)=false from by rw [hw0];rfl,if_neg (by omega)];rfl
   ·rw [show (wc != 0)=true from by rw [bne_iff_ne];exact hw0,zC,zb,Tr.rT,zb,Tr.rR]
    by_cases hww':widthT wc=iw
    ·rw [show (widthT wc != iw)=false from by rw [hww'];simp,if_neg (by omega)];rfl
    ·rw [show (widthT wc != iw)=true from by rw [bne_iff_ne];exact hww',if_pos (.inr ⟨hw0,hww'⟩)];rfl
  ·rw [show (n != ich)=true from by rw [bne_iff_ne];exact hn,if_pos (.inl hn)];rfl
 by_cases h8:cc+1>8
 ·rw [Tr.rR,zT h8,zC]
  simp only [h8,if_true]
  refine (bindT rfl).trans ?_
  refine (fin 2 (cc - 7)).trans ?_
  split<;>rfl
 ·rw [Tr.rR,zF h8,zc]
  simp only [h8,if_false]
  refine (bindT rfl).trans ?_
  refine (fin (cc+1) 0).trans ?_
  split<;>rfl
end
section
set_option maxRecDepth 100000
open Go.LM
def stP (md:Int) (planes:List (List Int)):List (List Int):=if md=0 then planes else
 [(List.range (planes.getD 0 []).length).map (fun i=>(st2 md ((planes.getD 0 []).getD i 0) ((planes.getD 1 []).getD i 0)).1),(List.range (planes.getD 0 []).length).map (fun i=>(st2 md ((planes.getD 0 []).getD i 0) ((planes.getD 1 []).getD i 0)).2)]
theorem fits24 (w:Nat) (hw:4<=w/\w<=24) (x:Int) (h:fitsW w x):-8388608<=x/\x<8388608:=by
 unfold fitsW at h
 have h2:2 ^ (w - 1)<=2 ^ 23:=Nat.pow_le_pow_right (by decide) (by omega)
 have h3:(2:Nat) ^ 23=8388608:=by decide
 rw [h3] at h2
 generalize 2 ^ (w - 1)=q at h h2
 omega
theorem st2_bd (md x y:Int) (hx:-8388608<=x/\x<8388608) (hy:-8388608<=y/\y<8388608):(-16777216<=(st2 md x y).1/\(st2 md x y).1<16777216)/\(-16777216<=(st2 md x y).2/\(st2 md x y).2<16777216):=by
 unfold st2
 repeat' split
 all_goals (simp only;omega)
theorem stP_ok (md:Int) (planes:List (List Int)) (sz w ch:Nat) (hw:4<=w/\w<=24) (hm:md=0\/ch=2) (hl:planes.length=ch) (hB:BlkOK (sz:Int) w planes):(stP md planes).length=ch/\∀ l∈stP md planes,l.length=sz/\∀ x∈l,-16777216<=x/\x<16777216:=by
 unfold stP
 by_cases h0:md=0
 ·rw [if_pos h0]
  refine ⟨hl,fun l hl'=>?_⟩
  obtain ⟨a,b⟩:=hB l hl'
  refine ⟨by omega,fun x hx=>?_⟩
  have:=fits24 w hw x (b x hx)
  omega
 ·rw [if_neg h0]
  have hc:ch=2:=by omega
  subst hc
  have m0:planes.getD 0 []∈planes:=by rw [getD_lt _ _ (by omega)];exact List.getElem_mem _
  have m1:planes.getD 1 []∈planes:=by rw [getD_lt _ _ (by omega)];exact List.getElem_mem _
  obtain ⟨a0,b0⟩:=hB _ m0
  obtain ⟨a1,b1⟩:=hB _ m1
  have l0:(planes.getD 0 []).length=sz:=by omega
  have l1:(planes.getD 1 []).length=sz:=by omega
  have hx:∀ i,i<sz->-8388608<=(planes.getD 0 []).getD i 0/\(planes.getD 0 []).getD i 0<8388608:=fun i hi=>fits24 w hw _ (mem_getD.2 b0 i (by omega))
  have hy:∀ i,i<sz->-8388608<=(planes.getD 1 []).getD i 0/\(planes.getD 1 []).getD i 0<8388608:=fun i hi=>fits24 w hw _ (mem_getD.2 b1 i (by omega))
  refine ⟨rfl,fun l hl'=>?_⟩
  rw [l0] at hl'
  rcases List.mem_cons.1 hl' with rfl|hl'
  ·refine ⟨by simp,fun x hx'=>?_⟩
   obtain ⟨i,hi,rfl⟩:=List.mem_map.1 hx'
   rw [List.mem_range] at hi
   exact (st2_bd md _ _ (hx i hi) (hy i hi)).1
  ·rcases List.mem_cons.1 hl' with rfl|hl'
   ·refine ⟨by simp,fun x hx'=>?_⟩
    obtain ⟨i,hi,rfl⟩:=List.mem_map.1 hx'
    rw [List.mem_range] at hi
    exact (st2_bd md _ _ (hx i hi) (hy i hi)).2
   ·cases hl'
def bitsN (ss:Nat->Sb) (md:Int) (w:Int) (pl:List (List Int)) (n:Nat):List Bool:=(List.range n).flatMap fun i=>(ss i).bits (wideV w md (i:Int)).toNat (pl.getD i [])
theorem bitsN_succ (ss:Nat->Sb) (md w:Int) (pl:List (List Int)) (n:Nat):bitsN ss md w pl (n+1)=bitsN ss md w pl n++(ss n).bits (wideV w md (n:Int)).toNat (pl.getD n []):=by
 unfold bitsN
 rw [List.range_succ,List.flatMap_append]
 simp
theorem bitsN_len (ss:Nat->Sb) (md w:Int) (pl:List (List Int)) (sz:Nat) (hsz:sz<=4608):∀ n,n<=8->(∀ i,i<n->SbOK (ss i) (wideV w md (i:Int)).toNat (pl.getD i [])/\(pl.getD i []).length=sz)->(bitsN ss md w pl n).length<=n*77312568000
 |0,_,_=>by simp [bitsN]
 |n+1,hn,h=>by
  have ih:=bitsN_len ss md w pl sz hsz n (by omega) (fun i hi=>h i (by omega))
  obtain ⟨a,b⟩:=h n (by omega)
  have:=bits_len _ _ _ a
  rw [b] at this
  rw [bitsN_succ,zL]
  omega
theorem wide_bd (w md i:Int) (hw:4<=w/\w<=24):4<=wideV w md i/\wideV w md i<=25:=by
 unfold wideV;split<;>omega
def frameA (v:Bool) (nm sz sc rc wc md rt ch:Nat) (w:Int) (ss:Nat->Sb) (pl:List (List Int)):List UInt8:=headS v nm sz sc rc wc (if md=0 then ch - 1 else 7+md) rt++pk (bitsN ss (md:Int) w pl ch)
end
section
set_option maxRecDepth 100000
open Go.LM
theorem valB_zero:∀ n,valB (List.replicate n false)=0
 |0=>rfl
 |n+1=>by
  rw [List.replicate_succ',valB_snoc,valB_zero n];rfl
theorem padN_lt (n:Nat):padN n<8:=Nat.mod_lt _ (by decide)
theorem Align_eq (bs rest:List Bool) (hb:(bs++(List.replicate (padN bs.length) false++rest)).length<=281474976710656):LQ.AlignR (bs.length:Int) (pk (bs++(List.replicate (padN bs.length) false++rest)))=some ((true,0),((bs.length+padN bs.length:Nat):Int),pk (bs++(List.replicate (padN bs.length) false++rest))):=by
 have hlb:bs.length<=281474976710656:=by rw [zL] at hb;omega
 have h1:(bs.length:Int).tmod 8=((bs.length % 8:Nat):Int):=by rw [Int.tmod_eq_emod_of_nonneg (by omega)];omega
 have h2:w64 (8 - ((bs.length % 8:Nat):Int))=((8 - bs.length % 8:Nat):Int):=by rw [w64_id (by omega)];omega
 have h3:((8 - bs.length % 8:Nat):Int).tmod 8=((padN bs.length:Nat):Int):=by
  rw [Int.tmod_eq_emod_of_nonneg (by omega)];unfold padN;omega
 have hg:=Get_eq (bs++(List.replicate (padN bs.length) false++rest)) (List.replicate (padN bs.length) false) bs.length (padN bs.length) ⟨bs,rest,rfl,rfl⟩ (by simp) (by have:=padN_lt bs.length;omega) hb
 rw [valB_zero] at hg
 unfold LQ.AlignR LQ.AlignR.t
 rw [Tr.rR,zc,Tr.rB]
 refine (bindT (a:=((bs.length:Int),(bs.length:Int),pk (bs++(List.replicate (padN bs.length) false++rest)))) rfl).trans ?_
 rw [Tr.rB,h1,h2,h3]
 refine (bindT hg).trans ?_
 rfl
theorem bitsN_split (ss:Nat->Sb) (md w:Int) (pl:List (List Int)) (i:Nat):∀ n,i<n->∃ post,bitsN ss md w pl n=bitsN ss md w pl i++((ss i).bits (wideV w md (i:Int)).toNat (pl.getD i [])++post):=by
 intro n
 induction n with
 |zero=>intro h;omega
 |succ n ih=>
  intro h
  by_cases e:i=n
  ·subst e;exact ⟨[],by rw [bitsN_succ,List.append_nil]⟩
  ·obtain ⟨post,hp⟩:=ih (by omega)
   exact ⟨post++(ss n).bits (wideV w md (n:Int)).toNat (pl.getD n []),by rw [bitsN_succ,hp];simp only [List.append_assoc]⟩
theorem map_getD_range (l:List (List Int)):(List.range l.length).map (fun i=>l.getD i [])=l:=by
 apply List.ext_getElem
 ·simp
 ·intro i h1 h2
  rw [List.getElem_map,List.getElem_range,getD_lt _ _ h2]
theorem map_getD_subs (l:List SubD):(List.range l.length).map (fun i=>l.getD i zSub)=l:=by
 apply List.ext_getElem
 ·simp
 ·intro i h1 h2
  rw [List.getElem_map,List.getElem_range,getD_lt _ _ h2]
theorem map_getD_int (l:List Int) (n:Nat) (h:l.length=n):(List.range n).map (fun i=>l.getD i 0)=l:=by
 subst h
 apply List.ext_getElem
 ·simp
 ·intro i h1 h2
  rw [List.getElem_map,List.getElem_range,getD_lt _ _ h2]
theorem getD_map_range {α:Type} (f:Nat->α) (z:α) (n i:Nat) (h:i<n):((List.range n).map f).getD i z=f i:=by
 rw [getD_lt _ _ (by simpa using h)];simp
theorem un_stP (md:Nat) (planes:List (List Int)) (sz:Nat) (h0:md≠0) (hm:md<=3) (hl:planes.length=2) (h:∀ l∈planes,l.length=sz) (hz:sz<=4608) (hb:∀ l∈stP (md:Int) planes,l.length=sz/\∀ x∈l,-16777216<=x/\x<16777216) :
  LQ.Unstereo (md:Int) ((stP (md:Int) planes).getD 0 []) ((stP (md:Int) planes).getD 1 [])=some (planes.getD 0 [],planes.getD 1 [],0):=by
 have h0':¬ (md:Int)=0:=by omega
 have l0:(planes.getD 0 []).length=sz:=h _ (by rw [getD_lt _ _ (by omega)];exact List.getElem_mem _)
 have l1:(planes.getD 1 []).length=sz:=h _ (by rw [getD_lt _ _ (by omega)];exact List.getElem_mem _)
 have e0:(stP (md:Int) planes).getD 0 []=(List.range sz).map (fun i=>(st2 md ((planes.getD 0 []).getD i 0) ((planes.getD 1 []).getD i 0)).1):=by
  unfold stP;rw [if_neg h0',l0];rfl
 have e1:(stP (md:Int) planes).getD 1 []=(List.range sz).map (fun i=>(st2 md ((planes.getD 0 []).getD i 0) ((planes.getD 1 []).getD i 0)).2):=by
  unfold stP;rw [if_neg h0',l0];rfl
 have m0:(stP (md:Int) planes).getD 0 []∈stP (md:Int) planes:=by
  unfold stP;rw [if_neg h0'];exact List.mem_cons_self
 have m1:(stP (md:Int) planes).getD 1 []∈stP (md:Int) planes:=by
  unfold stP;rw [if_neg h0'];exact List.mem_cons_of_mem _ List.mem_cons_self
 have hU:=Unstereo_eq (md:Int) ((stP (md:Int) planes).getD 0 []) ((stP (md:Int) planes).getD 1 []) (by omega) (by rw [(hb _ m0).1,(hb _ m1).1]) (by rw [(hb _ m0).1];omega) (fun x hx=>by have:=(hb _ m0).2 x hx;omega) (fun x hx=>by have:=(hb _ m1).2 x hx;omega)
 rw [hU,(hb _ m0).1]
 have hmap:∀ i,i∈List.range sz->un2 (md:Int) (((stP (md:Int) planes).getD 0 []).getD i 0) (((stP (md:Int) planes).getD 1 []).getD i 0)=((planes.getD 0 []).getD i 0,(planes.getD 1 []).getD i 0):=fun i hi=>by
  rw [List.mem_range] at hi
  rw [e0,e1,getD_map_range _ _ _ _ hi,getD_map_range _ _ _ _ hi,un_st]
 have f0:(List.range sz).map (fun i=>(un2 (md:Int) (((stP (md:Int) planes).getD 0 []).getD i 0) (((stP (md:Int) planes).getD 1 []).getD i 0)).1)=planes.getD 0 []:=by
  rw [←map_getD_int (planes.getD 0 []) sz l0]
  apply List.map_congr_left
  intro i hi
  rw [hmap i hi]
 have f1:(List.range sz).map (fun i=>(un2 (md:Int) (((stP (md:Int) planes).getD 0 []).getD i 0) (((stP (md:Int) planes).getD 1 []).getD i 0)).2)=planes.getD 1 []:=by
  rw [←map_getD_int (planes.getD 1 []) sz l1]
  apply List.map_congr_left
  intro i hi
  rw [hmap i hi]
 rw [f0,f1]
theorem beV_two (n:Nat) (h:n<65536):beV (beB n 2)=n:=beV_be n 2 (by omega)
theorem loop_back (v:Bool) (nm sz sc rc wc md cc hl rt ch w:Nat) (rt':Int) (subs:List SubD) (i0 i1 i2 i3 i7:Int) (i8:List UInt8) (pl:List (List Int)) (ss:Nat->Sb) (all tail:List Bool) (hsz:1<=sz/\sz<=4608) (hmd:md<=3) (hch:1<=ch/\ch<=8) (hww:4<=w/\w<=24) (hlen:subs.length=ch) (sl:pl.length=ch)
  (hok:∀ i,i<ch->(ss i).D=subs.getD i zSub/\SbOK (ss i) (wideV w md (i:Int)).toNat (pl.getD i [])/\(pl.getD i []).length=sz) (hall:all=bitsN ss md w pl ch++tail) (hb:all.length<=281474976710656) :
  loopO (fun (d:(Int×Int×Int×Int×Int×Int×Int×Int×List UInt8)×(Bool×Int×Int×Int×Int×Int×Int)×BegD×(Bool×Int×Int×Int×Int×Int×Int)×(Int×List UInt8)×List (List Int)×List SubD)=>(LQ.fParse.l0 d.1 d.2.1 d.2.2.1 d.2.2.2.1 d.2.2.2.2.1 d.2.2.2.2.2.1 d.2.2.2.2.2.2).run) ((i0,i1,i2,i3,(rt:Int),(ch:Int),(w:Int),i7,i8),(false,(0:Int),(0:Int),(0:Int),(0:Int),(0:Int),(0:Int)),(v,(nm:Int),(sz:Int),(sc:Int),(rc:Int),(wc:Int),(md:Int),rt',(cc:Int),(hl:Int)),(v,(nm:Int),(sz:Int),(sc:Int),(rc:Int),(wc:Int),(md:Int)),((0:Int),pk all),[],[])=some (.inl ((i0,i1,i2,i3,(rt:Int),(ch:Int),(w:Int),i7,i8),(false,(0:Int),(0:Int),(0:Int),(0:Int),(0:Int),(0:Int)),(v,(nm:Int),(sz:Int),(sc:Int),(rc:Int),(wc:Int),(md:Int),rt',(cc:Int),(hl:Int)),(v,(nm:Int),(sz:Int),(sc:Int),(rc:Int),(wc:Int),(md:Int)),(((bitsN ss md w pl ch).length:Int),pk all),pl,subs)):=by
 have key:=loopO_steps (f:=(fun (d:(Int×Int×Int×Int×Int×Int×Int×Int×List UInt8)×(Bool×Int×Int×Int×Int×Int×Int)×BegD×(Bool×Int×Int×Int×Int×Int×Int)×(Int×List UInt8)×List (List Int)×List SubD)=>(LQ.fParse.l0 d.1 d.2.1 d.2.2.1 d.2.2.2.1 d.2.2.2.2.1 d.2.2.2.2.2.1 d.2.2.2.2.2.2).run)) (r:=.inl ((i0,i1,i2,i3,(rt:Int),(ch:Int),(w:Int),i7,i8),(false,(0:Int),(0:Int),(0:Int),(0:Int),(0:Int),(0:Int)),(v,(nm:Int),(sz:Int),(sc:Int),(rc:Int),(wc:Int),(md:Int),rt',(cc:Int),(hl:Int)),(v,(nm:Int),(sz:Int),(sc:Int),(rc:Int),(wc:Int),(md:Int)),(((bitsN ss md w pl ch).length:Int),pk all),pl,subs)) (fun i=>((i0,i1,i2,i3,(rt:Int),(ch:Int),(w:Int),i7,i8),(false,(0:Int),(0:Int),(0:Int),(0:Int),(0:Int),(0:Int)),(v,(nm:Int),(sz:Int),(sc:Int),(rc:Int),(wc:Int),(md:Int),rt',(cc:Int),(hl:Int)),(v,(nm:Int),(sz:Int),(sc:Int),(rc:Int),(wc:Int),(md:Int)),(((bitsN ss md w pl i).length:Int),pk all),(List.range i).map (fun j=>pl.getD j []),(List.range i).map (fun j=>subs.getD j zSub))) ch (fun i hi=>by
   obtain ⟨q1,q2,q3⟩:=hok i hi
   have hwd:=wide_bd (w:Int) (md:Int) (i:Int) (by omega)
   obtain ⟨W,hW⟩:∃ W:Nat,wideV w md (i:Int)=(W:Int):=⟨(wideV w md (i:Int)).toNat,by omega⟩
   have hfw:=fwide_eq i0 i1 i2 i3 rt ch w i7 i8 md (i:Int) (by omega) (by omega) (by omega)
   obtain ⟨post,hpost⟩:=bitsN_split ss md w pl i ch hi
   have hD:=DecodeF_at all (bitsN ss md w pl i).length (wideV w md (i:Int)).toNat (ss i) (pl.getD i []) q2 hb ⟨bitsN ss md w pl i,post++tail,by rw [hall,hpost];simp only [List.append_assoc],rfl⟩
   rw [q3,q1] at hD
   rw [hW] at hfw
   have hbs:=bitsN_succ ss md w pl i
   have hrl:((List.range i).map (fun j=>pl.getD j [])).length=i:=by simp
   have hrl2:((List.range i).map (fun j=>subs.getD j zSub)).length=i:=by simp
   show (LQ.fParse.l0 (i0,i1,i2,i3,(rt:Int),(ch:Int),(w:Int),i7,i8) (false,(0:Int),(0:Int),(0:Int),(0:Int),(0:Int),(0:Int)) (v,(nm:Int),(sz:Int),(sc:Int),(rc:Int),(wc:Int),(md:Int),rt',(cc:Int),(hl:Int)) (v,(nm:Int),(sz:Int),(sc:Int),(rc:Int),(wc:Int),(md:Int)) (((bitsN ss md w pl i).length:Int),pk all) ((List.range i).map (fun j=>pl.getD j [])) ((List.range i).map (fun j=>subs.getD j zSub))).run=_
   unfold LQ.fParse.l0
   rw [Tr.rR]
   rw [show (Int.ofNat ((List.range i).map (fun j=>pl.getD j [])).length == (ch:Int))=false from by rw [hrl,beq_eq_false_iff_ne];simp only [zN];omega,zc,Tr.rB]
   rw [show Int.ofNat ((List.range i).map (fun j=>pl.getD j [])).length=(i:Int) from by rw [hrl];rfl]
   refine (bindT hfw).trans ?_
   rw [Tr.rN _ trivial,Tr.rB]
   have hD':LQ.DecodeF ((sz:Int),(W:Int)) ((bitsN ss md w pl i).length:Int) (pk all)=some ((pl.getD i [],subs.getD i zSub,0),(((bitsN ss md w pl i).length+((ss i).bits (wideV w md (i:Int)).toNat (pl.getD i [])).length:Nat):Int),pk all):=by
    have:((wideV w md (i:Int)).toNat:Int)=(W:Int):=by omega
    rw [this] at hD;exact hD
   refine (bindT hD').trans ?_
   rw [Tr.rR,show ((0:Int) != 0)=false from rfl,zc,Tr.rN _ (by rw [hrl];show (i+1)*24<=_;omega),Tr.rN _ (by rw [hrl2];show (i+1)*128<=_;omega),Tr.rT,hbs,zL,List.range_succ,List.map_append,List.map_append]
   rfl) (by
   show (LQ.fParse.l0 (i0,i1,i2,i3,(rt:Int),(ch:Int),(w:Int),i7,i8) (false,(0:Int),(0:Int),(0:Int),(0:Int),(0:Int),(0:Int)) (v,(nm:Int),(sz:Int),(sc:Int),(rc:Int),(wc:Int),(md:Int),rt',(cc:Int),(hl:Int)) (v,(nm:Int),(sz:Int),(sc:Int),(rc:Int),(wc:Int),(md:Int)) (((bitsN ss md w pl ch).length:Int),pk all) ((List.range ch).map (fun j=>pl.getD j [])) ((List.range ch).map (fun j=>subs.getD j zSub))).run=_
   have r1:(List.range ch).map (fun j=>pl.getD j [])=pl:=by rw [←sl];exact map_getD_range pl
   have r2:(List.range ch).map (fun j=>subs.getD j zSub)=subs:=by rw [←hlen];exact map_getD_subs subs
   rw [r1,r2]
   unfold LQ.fParse.l0
   rw [Tr.rR]
   rw [show (Int.ofNat pl.length == (ch:Int))=true from by rw [sl,beq_iff_eq];rfl]
   rfl)
 exact key
end
section
set_option maxRecDepth 100000
open Go.LM
theorem parse_back (v:Bool) (nm sz sc rc wc md rt ch w:Nat) (subs:List SubD) (i0 i1 i2 i3 i7:Int) (i8:List UInt8) (planes:List (List Int)) (ss:Nat->Sb) (tail:List UInt8) (hsc:sc<16) (hrc:rc<16) (hwc:wc<8) (hrt:rt<9223372036854775808)
  (hfc:FcOK v nm sz sc rc wc md subs rt ch w) (hpl:planes.length=ch) (hB:BlkOK (sz:Int) w planes) (hK:LQ.fBlock (i0,i1,i2,i3,(rt:Int),(ch:Int),(w:Int),i7,i8,()) (sz:Int) planes=some true)
  (hok:∀ i,i<ch->(ss i).D=subs.getD i zSub/\SbOK (ss i) (wideV w md (i:Int)).toNat ((stP md planes).getD i [])/\((stP md planes).getD i []).length=sz) (htail:tail.length<=1000) :
  LQ.fParse ((frameA v nm sz sc rc wc md rt ch w ss (stP md planes)++beB (c16 (frameA v nm sz sc rc wc md rt ch w ss (stP md planes))) 2)++tail) (i0,i1,i2,i3,(rt:Int),(ch:Int),(w:Int),i7,i8,())=some (planes,(v,(nm:Int),(sz:Int),(sc:Int),(rc:Int),(wc:Int),(md:Int),subs,()),(((frameA v nm sz sc rc wc md rt ch w ss (stP md planes)++beB (c16 (frameA v nm sz sc rc wc md rt ch w ss (stP md planes))) 2).length:Nat):Int),0):=by
 obtain ⟨hst,hsz,hnm,hmd,hm2,hfs,hra,hln,hwk,hsb⟩:=hfc
 have hch:1<=ch/\ch<=8:=by omega
 have hww:4<=w/\w<=24:=by omega
 have hlen:subs.length=ch:=by omega
 have hmd':(md:Int)=0\/ch=2:=by omega
 obtain ⟨sl,sp⟩:=stP_ok md planes sz w ch hww hmd' hpl hB
 have hnmm:nm<68719476736:=by
  have:=hnm.2
  cases v
  ·have:(nm:Int)<=2147483647:=this
   omega
  ·have:(nm:Int)<=68719476735:=this
   omega
 have hnv:v=false->nm<2147483648:=fun e=>by
  subst e
  have:(nm:Int)<=2147483647:=hnm.2
  omega
 generalize hcc:(if md=0 then ch - 1 else 7+md)=cc
 have hcl:cc<16:=by rw [←hcc];split<;>omega
 have hbl:=bitsN_len ss md w (stP md planes) sz (by omega) ch (by omega) (fun i hi=>(hok i hi).2)
 have hfa:frameA v nm sz sc rc wc md rt ch w ss (stP md planes)=headS v nm sz sc rc wc cc rt++pk (bitsN ss (md:Int) w (stP md planes) ch):=by unfold frameA;rw [hcc]
 generalize hA:frameA v nm sz sc rc wc md rt ch w ss (stP md planes)=A at hfa ⊢
 have h16l:=c16_lt A
 generalize hT:beB (c16 A) 2++tail=T
 generalize hs:(A++beB (c16 A) 2)++tail=s
 have hsT:s=A++T:=by rw [←hs,←hT,List.append_assoc]
 have hTl:T.length=2+tail.length:=by rw [←hT,zL,beB_len]
 have hH:=readV_head v nm sz sc rc wc cc rt (pk (bitsN ss (md:Int) w (stP md planes) ch)++T) hnmm hnv (by omega) hsc hrc hwc hcl hfs hra
 have hsH:s=headS v nm sz sc rc wc cc rt++(pk (bitsN ss (md:Int) w (stP md planes) ch)++T):=by rw [hsT,hfa,List.append_assoc]
 rw [←hsH] at hH
 have hhl:(headS v nm sz sc rc wc cc rt).length<=16:=by
  unfold headS
  have:=headV_len v nm sz sc rc wc cc rt hnmm
  rw [zL]
  simp only [List.length_cons,List.length_nil]
  omega
 generalize hhd:headS v nm sz sc rc wc cc rt=hd at *
 generalize hbi:bitsN ss (md:Int) w (stP md planes) ch=bi at *
 have hpkl:=pk_len bi
 have hAl:A.length=hd.length+(bi.length+7) / 8:=by rw [hfa,zL,hpkl]
 have hsl:s.length=hd.length+(bi.length+7) / 8+(2+tail.length):=by rw [hsT,zL,hAl,hTl]
 have hR:=readN_eq s (by omega)
 rw [hH] at hR
 have hcc10:cc<=10:=by rw [←hcc];split<;>omega
 have hsc1:1<=sc:=by
  unfold fsizeOk at hfs
  by_cases h6:sc=6
  ·omega
  ·by_cases h7:sc=7
   ·omega
   ·rw [if_neg (by omega),if_neg (by omega)] at hfs
    have:=(of_decide_eq_true hfs).1
    omega
 have hrc14:rc<=14:=by
  by_cases h:rc<=14
  ·exact h
  ·exfalso
   have:rc=15:=by omega
   subst this
   unfold rateOk at hra
   rw [if_neg (by decide),if_neg (by decide),if_neg (by decide)] at hra
   have:=of_decide_eq_true hra
   omega
 have hL:lookV (sz:Int) (sc:Int) (rc:Int) (wc:Int) (if rc=0 then 0 else (rt:Int)) (cc:Int) (rt:Int) (ch:Int) (w:Int)=(0,(md:Int)):=by
  have hw0:¬ ((wc:Int)≠0/\widthT (wc:Int)≠(w:Int)):=by
   rintro ⟨a,b⟩
   rcases hwk with h|⟨_,_,h⟩
   ·exact a h
   ·exact b h
  have hb2:¬ ((rc:Int)=15\/((rc:Int)≠0/\(if rc=0 then 0 else (rt:Int))≠(rt:Int))\/(cc:Int)>10):=by
   rintro (h|⟨h,h'⟩|h)
   ·omega
   ·rw [if_neg (by omega)] at h';exact h' rfl
   ·omega
  unfold lookV
  rw [if_neg (by omega),if_neg (by omega),if_neg hb2]
  by_cases h0:md=0
  ·have e:cc=ch - 1:=by rw [←hcc,if_pos h0]
   have h8:¬ ((cc:Int)+1>8):=by omega
   simp only [h8,if_false]
   rw [if_neg (by
    rintro (h|h)
    ·omega
    ·exact hw0 h)]
   rw [h0];rfl
  ·have e:cc=7+md:=by rw [←hcc,if_neg h0]
   have h8:(cc:Int)+1>8:=by omega
   simp only [h8,if_true]
   rw [if_neg (by
    rintro (h|h)
    ·omega
    ·exact hw0 h)]
   congr 1
   omega
 have hLN:=lookN_eq v (nm:Int) (sz:Int) (sc:Int) (rc:Int) (wc:Int) (if rc=0 then 0 else (rt:Int)) (cc:Int) ((hd.length:Nat):Int) i0 i1 i2 i3 (rt:Int) (ch:Int) (w:Int) i7 i8 (by omega) (by omega)
 rw [hL] at hLN
 have hst':LQ.stream (i0,i1,i2,i3,(rt:Int),(ch:Int),(w:Int),i7,i8,())=some true:=by
  rw [stream_eq]
  congr 1
  exact zT hst
 generalize hall:bi++(List.replicate (padN bi.length) false++tb T)=all
 have hpk:pk bi++T=pk all:=by rw [←hall];exact pk_text bi T
 have hpl8:=padN_lt bi.length
 have halll:all.length<=281474976710656:=by
  rw [←hall,zL,zL,List.length_replicate,tb_len];omega
 have hloop:=loop_back v nm sz sc rc wc md cc hd.length rt ch w (if rc=0 then 0 else (rt:Int)) subs i0 i1 i2 i3 i7 i8 (stP md planes) ss all (List.replicate (padN bi.length) false++tb T) (by omega) (by omega) hch hww hlen sl hok (by rw [hbi];exact hall.symm) halll
 rw [hbi] at hloop
 have hAl2:=Align_eq bi (tb T) (by rw [hall];exact halll)
 rw [hall] at hAl2
 have hdiv:(bi.length+padN bi.length) / 8=(bi.length+7) / 8:=by unfold padN;omega
 have hdv:w64 (((bi.length+padN bi.length:Nat):Int).tdiv 8)=(((bi.length+7) / 8:Nat):Int):=by
  have:((bi.length+padN bi.length:Nat):Int).tdiv 8=(((bi.length+padN bi.length) / 8:Nat):Int):=by
   rw [Int.tdiv_eq_ediv_of_nonneg (by omega)];omega
  rw [this,hdiv,w64_id (by omega)]
 have hend:w64 (((hd.length:Nat):Int)+(((bi.length+7) / 8:Nat):Int))=((A.length:Nat):Int):=by rw [w64_id (by omega)];omega
 have hend2:w64 (((A.length:Nat):Int)+2)=((A.length+2:Nat):Int):=by rw [w64_id (by omega)];omega
 have hcr:=Crc16_eq A (by omega)
 have hfb:=bFromBe_eq (beB (c16 A) 2) (by rw [beB_len];decide)
 rw [beV_two _ h16l] at hfb
 have hsg:seg s A.length 2=beB (c16 A) 2:=seg_mid' s A _ tail A.length 2 (by rw [←hs,List.append_assoc]) rfl (by rw [beB_len])
 have htk:s.take A.length=A:=by rw [hsT,List.take_left]
 have hdr:s.drop hd.length=pk all:=by rw [hsH,List.drop_left,hpk]
 unfold LQ.fParse LQ.fParse.t
 rw [Tr.rB]
 refine (bindT hR).trans ?_
 rw [Tr.rB]
 refine (bindT (a:=(false,(i0,i1,i2,i3,(rt:Int),(ch:Int),(w:Int),i7,i8),(false,(0:Int),(0:Int),(0:Int),(0:Int),(0:Int),(0:Int)),v,(nm:Int),(sz:Int),(sc:Int),(rc:Int),(wc:Int),(0:Int),(if rc=0 then (0:Int) else (rt:Int)),(cc:Int),((hd.length:Nat):Int))) (by
  rw [Tr.rR,Bool.not_true,zc,Tr.rB]
  refine (bindT hst').trans ?_
  rfl)).trans ?_
 rw [Tr.rR,zc,Tr.rB]
 refine (bindT hLN).trans ?_
 rw [Tr.rR,show ((0:Int) != 0)=false from rfl,zc]
 rw [Tr.rN _ (by show (0:Int)<=((hd.length:Nat):Int)/\((hd.length:Nat):Int)<=Int.ofNat s.length/\Int.ofNat s.length<=Int.ofNat s.length;simp only [zN];omega),Tr.rB]
 have hrest:List.take (Int.ofNat s.length - ((hd.length:Nat):Int)).toNat (List.drop ((hd.length:Nat):Int).toNat s)=pk all:=by
  rw [Int.toNat_natCast,show (Int.ofNat s.length - ((hd.length:Nat):Int)).toNat=(s.drop hd.length).length from by rw [List.length_drop];simp only [zN];omega,List.take_length,hdr]
 refine (bindT (a:=((0:Int),pk all)) (by
  show LQ.rOf (List.take (Int.ofNat s.length - ((hd.length:Nat):Int)).toNat (List.drop ((hd.length:Nat):Int).toNat s))=_
  rw [hrest];rfl)).trans ?_
 rw [Tr.rB]
 refine (bindT hloop).trans ?_
 rw [Tr.run_csl,Tr.rB]
 have hpl2:¬ md=0->planes.length=2:=fun h=>by omega
 refine (bindT (a:=.inr ((i0,i1,i2,i3,(rt:Int),(ch:Int),(w:Int),i7,i8),(false,(0:Int),(0:Int),(0:Int),(0:Int),(0:Int),(0:Int)),(v,(nm:Int),(sz:Int),(sc:Int),(rc:Int),(wc:Int),(md:Int),(if rc=0 then (0:Int) else (rt:Int)),(cc:Int),((hd.length:Nat):Int)),(v,(nm:Int),(sz:Int),(sc:Int),(rc:Int),(wc:Int),(md:Int)),((bi.length:Int),pk all),planes,subs)) (by
  rw [Tr.rR]
  show (bif ((md:Int) != 0) then _ else _)=_
  by_cases h0:md=0
  ·rw [show ((md:Int) != 0)=false from by rw [h0];rfl,zc,Tr.rT]
   have:stP (md:Int) planes=planes:=by unfold stP;rw [if_pos (by omega)]
   rw [this]
  ·have hU:=un_stP md planes sz h0 (by omega) (hpl2 h0) (fun l hl=>by have:=(hB l hl).1;omega) (by omega) sp
   have n0:(0:Int)<=(0:Int)/\(0:Int)<Int.ofNat (stP (md:Int) planes).length:=by rw [sl];simp only [zN];omega
   have n1:(0:Int)<=(1:Int)/\(1:Int)<Int.ofNat (stP (md:Int) planes).length:=by rw [sl];simp only [zN];have:=hpl2 h0;omega
   rw [show ((md:Int) != 0)=true from by rw [bne_iff_ne];omega,zC,Tr.rN _ n0,Tr.rN _ n1,Tr.rB]
   refine (bindT hU).trans ?_
   have hpp:((List.replicate 2 []).set 0 (planes.getD 0 [])).set 1 (planes.getD 1 [])=planes:=by
    have h2:=hpl2 h0
    match planes,h2 with
    | [a,b],_=>rfl
   rw [Tr.rR]
   show some _=_
   rw [hpp])).trans ?_
 rw [Tr.run_csr,Tr.rB]
 refine (bindT hAl2).trans ?_
 rw [Tr.rB]
 refine (bindT (a:=(((bi.length+padN bi.length:Nat):Int),((bi.length+padN bi.length:Nat):Int),pk all)) (by
  show LQ.AtR _ _=_
  unfold LQ.AtR LQ.AtR.t
  rw [Tr.rR,zc,Tr.rB]
  refine (bindT (a:=(((bi.length+padN bi.length:Nat):Int),((bi.length+padN bi.length:Nat):Int),pk all)) rfl).trans ?_
  rw [Tr.rN _ ⟨rfl,rfl,trivial⟩];rfl)).trans ?_
 rw [Tr.rN _ ⟨rfl,rfl,trivial⟩,Tr.rB]
 refine (bindT (a:=(false,(false,(0:Int),(0:Int),(0:Int),(0:Int),(0:Int),(0:Int)),(v,(nm:Int),(sz:Int),(sc:Int),(rc:Int),(wc:Int),(md:Int)),planes,subs)) (by
  rw [Tr.rR]
  show (bif (!true) then _ else _)=_
  rw [Bool.not_true,zc,Tr.rB]
  refine (bindT hK).trans ?_
  rw [Tr.rN _ trivial,Tr.rR,Bool.not_true,zc]
  simp only [hdv,hend,hend2]
  rw [Tr.rR,show decide (Int.ofNat s.length<((A.length+2:Nat):Int))=false from zF (by simp only [zN];omega),zc]
  rw [Tr.rN _ (by simp only [zN];omega),Tr.rB]
  have e2:(((A.length+2:Nat):Int) - ((A.length:Nat):Int)).toNat=2:=by omega
  rw [e2,Int.toNat_natCast]
  refine (bindT ((congrArg LQ.bFromBe (show List.take 2 (List.drop A.length s)=beB (c16 A) 2 from hsg)).trans hfb)).trans ?_
  rw [Tr.rN _ trivial,Tr.rN _ (by simp only [zN];omega),Tr.rB]
  have e3:(((A.length:Nat):Int) - 0).toNat=A.length:=by omega
  rw [e3,List.drop_zero,htk]
  refine (bindT hcr).trans ?_
  rw [Tr.rN _ trivial,Tr.rT]
  simp)).trans ?_
 rw [Tr.rR,zc,Tr.rT]
 simp only [hdv,hend,hend2]
 rw [zL,beB_len]
end
section
set_option maxRecDepth 100000
open Go.LM
theorem r11Same_self (v:Bool) (nm sz sc rc wc md:Int) (subs:List SubD) (hl:subs.length<=1048576) (h:∀ d∈subs,SubIn d):LQ.r11Same (v,nm,sz,sc,rc,wc,md,subs,()) (v,nm,sz,sc,rc,wc,md,subs,())=some true:=by
 have hlo:=loopO_steps (f:=fun (d:Int×(Bool×Int×Int×Int×Int×Int×Int×List SubD)×Bool×Int×Int×Int×Int×Int×Int×List SubD)=>(LQ.r11Same.l0 d.1 d.2.1 d.2.2.1 d.2.2.2.1 d.2.2.2.2.1 d.2.2.2.2.2.1 d.2.2.2.2.2.2.1 d.2.2.2.2.2.2.2.1 d.2.2.2.2.2.2.2.2.1 d.2.2.2.2.2.2.2.2.2).run) (fun i=>((i:Int),(v,nm,sz,sc,rc,wc,md,subs),v,nm,sz,sc,rc,wc,md,subs)) (r:=.inr ()) subs.length (fun i hi=>by
   have hd:=h _ (show subs.getD i zSub∈subs by rw [getD_lt _ _ hi];exact List.getElem_mem hi)
   have hx:=r10Same_self (subs.getD i zSub) hd.cl hd.pl hd.el
   have hdc:decide ((i:Int)<Int.ofNat subs.length)=true:=zT (by simp only [zN];omega)
   have hn:(0:Int)<=(i:Int)/\(i:Int)<Int.ofNat subs.length:=by simp only [zN];omega
   have hi1:w64 ((i:Int)+1)=((i+1:Nat):Int):=by rw [w64_id (by omega)];omega
   show (LQ.r11Same.l0 (i:Int) (v,nm,sz,sc,rc,wc,md,subs) v nm sz sc rc wc md subs).run=_
   unfold LQ.r11Same.l0
   rw [Tr.rR]
   rw [hdc,zC,Tr.rN _ hn,Tr.rN _ hn,Tr.rB,Int.toNat_natCast]
   refine (bindT hx).trans ?_
   rw [Tr.rR,Bool.not_true,zc,Tr.rT,hi1]) (by
   show (LQ.r11Same.l0 ((subs.length:Nat):Int) (v,nm,sz,sc,rc,wc,md,subs) v nm sz sc rc wc md subs).run=_
   unfold LQ.r11Same.l0
   rw [Tr.rR]
   rw [show decide (((subs.length:Nat):Int)<Int.ofNat subs.length)=false from zF (by simp only [zN];omega)]
   rfl)
 have hv:(v == v)=true:=beq_self_eq_true v
 unfold LQ.r11Same LQ.r11Same.t
 rw [Tr.rB]
 simp only [hv,Bool.not_true,bne_self_eq_false,Tr.rR,zc,Tr.rT,zb]
 rw [Tr.rB]
 refine (bindT hlo).trans ?_
 rfl
theorem awake_fc:FcOK false 0 16 6 4 1 0 [zSub] 8000 1 8:=by
 refine ⟨by decide,by decide,⟨by decide,by decide⟩,by decide,.inl rfl,by decide,by decide,by decide,.inr ⟨by decide,by decide,by decide⟩,fun i hi=>?_⟩
 have e:i=0:=by simp at hi;omega
 subst e
 refine ⟨⟨0,0,0,0,0,0,0,[],[],[]⟩,8,by decide,rfl,⟨by decide,by decide,by decide,by decide,by decide,by decide,fun _=>⟨rfl,rfl,rfl,rfl,rfl⟩,fun _=>⟨rfl,rfl,rfl⟩,(fun h=>by cases h),(fun h=>by cases h),by decide,(fun h=>absurd h (by decide))⟩,?_⟩
 exact Check_eq 0 (.inl rfl) 0 16 8 (by decide) (by decide) (by decide)
theorem SubIn_z:SubIn zSub:=⟨by unfold inR;decide,fun c h=>(by cases h),by decide,by decide,by decide⟩
theorem awake_check:LQ.fCheck (false,0,16,6,4,1,0,[zSub],()) (16,4608,0,0,8000,1,8,0,[],())=some 0:=by
 have hst:LQ.stream (16,4608,0,0,8000,1,8,0,[],())=some true:=stream_eq 16 4608 0 0 8000 1 8 0 []
 have hfs:LQ.fsize 6 16=some true:=fsize_eq 6 16
 have hra:LQ.rate 4 8000=some true:=rate_eq 4 8000 (by decide)
 have hwt:LQ.widthOf 1=some 8:=widthOf_eq 1 (by decide)
 have hfw:LQ.fwide (16,4608,0,0,8000,1,8,0,[],()) 0 0=some 8:=fwide_eq 16 4608 0 0 8000 1 8 0 [] 0 0 (by decide) (by decide) (by decide)
 have hck:LQ.Check zSub 16 8=some 0:=Check_eq 0 (.inl rfl) 0 16 8 (by decide) (by decide) (by decide)
 have l1:∀ b,loopO (fun (d:Int×(Bool×Int×Int×Int×Int×Int×Int×List SubD)×Int×Int×Int×Int×Int×Int×Int×Int×List UInt8)=>(LQ.fCheck.l0 (b,(false,0,16,6,4,1,0,[zSub]),16,4608,0,0,8000,1,8,0,[]) d.1 d.2.1 d.2.2.1 d.2.2.2.1 d.2.2.2.2.1 d.2.2.2.2.2.1 d.2.2.2.2.2.2.1 d.2.2.2.2.2.2.2.1 d.2.2.2.2.2.2.2.2.1 d.2.2.2.2.2.2.2.2.2.1 d.2.2.2.2.2.2.2.2.2.2).run)
   ((0:Int),(false,0,16,6,4,1,0,[zSub]),16,4608,0,0,8000,1,8,0,[])=some (.inr ()):=fun b=>by
  refine (loopO_next (d':=((1:Int),(false,0,16,6,4,1,0,[zSub]),16,4608,0,0,8000,1,8,0,[])) ?_).trans (loopO_done ?_)
  ·show (LQ.fCheck.l0 _ (0:Int) _ _ _ _ _ _ _ _ _ _).run=_
   unfold LQ.fCheck.l0
   rw [Tr.rR]
   show (bif decide ((0:Int)<Int.ofNat [zSub].length) then _ else _)=_
   rw [show decide ((0:Int)<Int.ofNat [zSub].length)=true from rfl,zC,Tr.rN _ (by show (0:Int)<=0/\(0:Int)<1;decide),Tr.rB]
   refine (bindT hfw).trans ?_
   rw [Tr.rB]
   refine (bindT hck).trans ?_
   rfl
  ·show (LQ.fCheck.l0 _ (1:Int) _ _ _ _ _ _ _ _ _ _).run=_
   unfold LQ.fCheck.l0
   rw [Tr.rR]
   show (bif decide ((1:Int)<Int.ofNat [zSub].length) then _ else _)=_
   rw [show decide ((1:Int)<Int.ofNat [zSub].length)=false from rfl];rfl
 have e1:decide ((16:Int)>=1)=true:=rfl
 have e2:decide ((16:Int)<=4608)=true:=rfl
 have e3:decide ((0:Int)>=0)=true:=rfl
 have e4:decide ((0:Int)<=2147483647)=true:=rfl
 have e5:decide ((0:Int)<=3)=true:=rfl
 have e6:((0:Int) == 0)=true:=rfl
 have e7:(Int.ofNat [zSub].length == (1:Int))=true:=rfl
 have e8:((1:Int) == 0)=false:=rfl
 have e9:decide ((1:Int)>0)=true:=rfl
 have e10:decide ((1:Int)<8)=true:=rfl
 have e11:((8:Int) == 8)=true:=rfl
 unfold LQ.fCheck LQ.fCheck.t
 simp only [Tr.rB,Tr.rR,Tr.rT,zb,zC,zc,Bool.not_true,Bool.not_false,hst,hfs,hra,hwt,e1,e2,e3,e4,e5,e6,e7,e8,e9,e10,e11]
 exact (bindT (l1 _)).trans rfl
theorem awake_block:LQ.fBlock (16,4608,0,0,8000,1,8,0,[],()) 16 [List.replicate 16 0]=some true:=by
 have hfit:∀ x∈(List.replicate 16 (0:Int)),fitsW 8 x:=fun x h=>by rw [List.eq_of_mem_replicate h];unfold fitsW;decide
 have hBlk:BlkOK (16:Int) 8 [List.replicate 16 0]:=fun l h=>by
  rw [List.mem_singleton.1 h]
  exact ⟨by decide,hfit⟩
 rcases fBlock_dec [List.replicate 16 0] 16 16 4608 0 0 8000 1 0 [] 8 (by decide) (fun l h=>by
  rw [List.mem_singleton.1 h]
  exact ⟨fun x hx=>by rw [List.eq_of_mem_replicate hx];unfold inR;decide,by decide⟩) (by decide) with ⟨_,h⟩|⟨h,_⟩
 ·exact h
 ·exact absurd ⟨by decide,hBlk⟩ h
def s0:Sb:=⟨0,0,0,0,0,0,0,[],[],[]⟩
theorem awake_build:∃ ss:Nat->Sb,(∀ i,i<1->(ss i).D=([zSub]:List SubD).getD i zSub/\SbOK (ss i) (wideV (8:Int) (0:Int) (i:Int)).toNat ((stP 0 [List.replicate 16 0]).getD i [])/\((stP 0 [List.replicate 16 0]).getD i []).length=16) /\
   LQ.fBuild (false,0,16,6,4,1,0,[zSub],()) (16,4608,0,0,8000,1,8,0,[],()) [List.replicate 16 0]=some (frameA false 0 16 6 4 1 0 8000 1 8 ss (stP 0 [List.replicate 16 0])++beB (c16 (frameA false 0 16 6 4 1 0 8000 1 8 ss (stP 0 [List.replicate 16 0]))) 2,0):=by
 have hfit:∀ x∈(List.replicate 16 (0:Int)),fitsW 8 x:=fun x h=>by rw [List.eq_of_mem_replicate h];unfold fitsW;decide
 have ck:CkOK s0 8 (List.replicate 16 (0:Int)).length:=⟨by decide,by decide,by decide,by decide,by decide,by decide,fun _=>⟨rfl,rfl,rfl,rfl,rfl⟩,fun _=>⟨rfl,rfl,rfl⟩,(fun h=>by cases h),(fun h=>by cases h),by decide,(fun h=>absurd h (by decide))⟩
 have hd:∀ n∈(List.replicate 16 (0:Int)),n / ((2 ^ 0:Nat):Int)*((2 ^ 0:Nat):Int)=n:=fun n h=>by rw [List.eq_of_mem_replicate h];decide
 have hG:=goes_eq 0 0 8 (List.replicate 16 (0:Int)) (by decide) (by decide) (by decide) hd hfit (fun _ n h=>by rw [List.eq_of_mem_replicate h];rfl)
 have go:GoOK s0 8 (List.replicate 16 (0:Int)):=⟨hd,hfit,fun _ n h=>by rw [List.eq_of_mem_replicate h];rfl,by decide⟩
 obtain ⟨ok,henc⟩:=encF_low s0 (by decide) 8 (List.replicate 16 (0:Int)) [] ck go (Check_eq 0 (.inl rfl) 0 16 8 (by decide) (by decide) (by decide)) hG (by decide)
 have hbits:bitsN (fun _=>s0) 0 8 [List.replicate 16 0] 1=s0.bits 8 (List.replicate 16 0):=by
  rw [bitsN_succ,show bitsN (fun _=>s0) 0 8 [List.replicate 16 0] 0=[] from rfl];rfl
 have hbl:(s0.bits 8 (List.replicate 16 0)).length=16:=by decide
 refine ⟨fun _=>s0,fun i hi=>?_,?_⟩
 ·have e:i=0:=by omega
  subst e
  exact ⟨rfl,ok,rfl⟩
 have hH:=fHead_eq false 0 16 6 4 1 0 8000 1 8 [zSub] 16 4608 0 0 0 [] (by decide) (by decide) (by decide) (by decide) (by decide) (by decide) (by decide) (by decide) (by decide) (by decide)
 have hfr:frameA false 0 16 6 4 1 0 8000 1 8 (fun _=>s0) (stP 0 [List.replicate 16 0])=headS false 0 16 6 4 1 0 8000++pk (s0.bits 8 (List.replicate 16 0)):=by
  unfold frameA
  rw [show (if (0:Nat)=0 then 1 - 1 else 7+0)=0 from rfl]
  show _++pk (bitsN (fun _=>s0) 0 8 [List.replicate 16 0] 1)=_
  rw [hbits]
 have hhl:(headS false 0 16 6 4 1 0 8000).length=7:=by
  unfold headS
  rw [show headV false 0 16 6 4 1 0 8000=[255,248,100,2,0,15] from by decide];rfl
 have hpl:(pk (s0.bits 8 (List.replicate 16 0))).length=2:=by rw [pk_len,hbl]
 have hAl:(frameA false 0 16 6 4 1 0 8000 1 8 (fun _=>s0) (stP 0 [List.replicate 16 0])).length=9:=by rw [hfr,zL,hhl,hpl]
 have h16:=Crc16_eq (frameA false 0 16 6 4 1 0 8000 1 8 (fun _=>s0) (stP 0 [List.replicate 16 0])) (by rw [hAl];decide)
 have h16l:=c16_lt (frameA false 0 16 6 4 1 0 8000 1 8 (fun _=>s0) (stP 0 [List.replicate 16 0]))
 have hbe:LQ.bBe ((c16 (frameA false 0 16 6 4 1 0 8000 1 8 (fun _=>s0) (stP 0 [List.replicate 16 0])):Nat):Int) 2=some (beB (c16 (frameA false 0 16 6 4 1 0 8000 1 8 (fun _=>s0) (stP 0 [List.replicate 16 0]))) 2,0):=bBe_n _ 2 (by decide) (by decide) h16l
 have hfw:LQ.fwide (16,4608,0,0,8000,1,8,0,[],()) 0 0=some 8:=fwide_eq 16 4608 0 0 8000 1 8 0 [] 0 0 (by decide) (by decide) (by decide)
 have l1:loopO (fun (d:Int×(Bool×Int×Int×Int×Int×Int×Int×List SubD)×(Int×Int×Int×Int×Int×Int×Int×Int×List UInt8)×Int×List UInt8)=>(LQ.fBuild.l0 ([List.replicate 16 0],(false,0,16,6,4,1,0,[zSub]),16,4608,0,0,8000,1,8,0,[]) d.1 d.2.1 d.2.2.1 d.2.2.2.1 d.2.2.2.2).run) ((0:Int),(false,0,16,6,4,1,0,[zSub]),(16,4608,0,0,8000,1,8,0,[]),(0:Int),([]:List UInt8))=some (.inr ((false,0,16,6,4,1,0,[zSub]),(16,4608,0,0,8000,1,8,0,[]),(16:Int),pk (s0.bits 8 (List.replicate 16 0)))):=by
  refine (loopO_next (d':=((1:Int),(false,0,16,6,4,1,0,[zSub]),(16,4608,0,0,8000,1,8,0,[]),(16:Int),pk (s0.bits 8 (List.replicate 16 0)))) ?_).trans (loopO_done ?_)
  ·show (LQ.fBuild.l0 _ (0:Int) _ _ _ _).run=_
   unfold LQ.fBuild.l0
   rw [Tr.rR]
   show (bif decide ((0:Int)<Int.ofNat ([List.replicate 16 (0:Int)]:List (List Int)).length) then _ else _)=_
   rw [show decide ((0:Int)<Int.ofNat ([List.replicate 16 (0:Int)]:List (List Int)).length)=true from rfl,zC,Tr.rN _ (by decide),Tr.rN _ (by decide),Tr.rB]
   refine (bindT hfw).trans ?_
   rw [Tr.rB]
   refine (bindT henc).trans ?_
   rw [Tr.rR,show ((0:Int) != 0)=false from rfl,zc,Tr.rT,hbl]
   rfl
  ·show (LQ.fBuild.l0 _ (1:Int) _ _ _ _).run=_
   unfold LQ.fBuild.l0
   rw [Tr.rR]
   show (bif decide ((1:Int)<Int.ofNat ([List.replicate 16 (0:Int)]:List (List Int)).length) then _ else _)=_
   rw [show decide ((1:Int)<Int.ofNat ([List.replicate 16 (0:Int)]:List (List Int)).length)=false from rfl];rfl
 unfold LQ.fBuild LQ.fBuild.t
 rw [Tr.rB]
 refine (bindT awake_check).trans ?_
 rw [Tr.rR,show ((0:Int) != 0)=false from rfl,zc,Tr.rB]
 refine (bindT awake_block).trans ?_
 rw [Tr.rR,Bool.not_true,zc,Tr.rB]
 refine (bindT (a:=([List.replicate 16 0],(false,0,16,6,4,1,0,[zSub]),16,4608,0,0,8000,1,8,0,[])) rfl).trans ?_
 rw [Tr.rB]
 refine (bindT (a:=((0:Int),([]:List UInt8))) rfl).trans ?_
 rw [Tr.rB]
 refine (bindT l1).trans ?_
 rw [Tr.run_csr,Tr.rB]
 refine (bindT hH).trans ?_
 rw [Tr.rB]
 refine (bindT (a:=(pk (s0.bits 8 (List.replicate 16 0)),(16:Int),pk (s0.bits 8 (List.replicate 16 0)))) rfl).trans ?_
 rw [Tr.rN _ (by show (headS false 0 16 6 4 1 0 8000).length+(pk (s0.bits 8 (List.replicate 16 0))).length<=_;rw [hhl,hpl];decide),Tr.rB]
 refine (bindT (show LQ.Crc16 (headS false 0 16 6 4 1 0 8000++pk (s0.bits 8 (List.replicate 16 0)))=_ by rw [←hfr];exact h16)).trans ?_
 rw [Tr.rB]
 refine (bindT hbe).trans ?_
 rw [Tr.rN _ (by show (headS false 0 16 6 4 1 0 8000++pk (s0.bits 8 (List.replicate 16 0))).length+(beB _ 2).length<=_;rw [←hfr,hAl,beB_len];decide)]
 show some ((headS false 0 16 6 4 1 0 8000++pk (s0.bits 8 (List.replicate 16 0)))++_,_)=_
 rw [←hfr]
theorem parse_nohead (s:List UInt8) (i:InfD) (hs:s.length<=4611686018427387904) (h:(readV s).2=false):LQ.fParse s i=some ([],(false,0,0,0,0,0,0,[],()),0,2):=by
 have hR:=readN_eq s hs
 generalize readV s=r at hR h
 obtain ⟨⟨b0,b1,b2,b3,b4,b5,b6,b7,b8,b9⟩,ok⟩:=r
 simp only at h
 subst h
 unfold LQ.fParse LQ.fParse.t
 rw [Tr.rB]
 refine (bindT hR).trans ?_
 rw [Tr.rB]
 refine (bindT (a:=(true,(i.1,i.2.1,i.2.2.1,i.2.2.2.1,i.2.2.2.2.1,i.2.2.2.2.2.1,i.2.2.2.2.2.2.1,i.2.2.2.2.2.2.2.1,i.2.2.2.2.2.2.2.2.1),(false,(0:Int),(0:Int),(0:Int),(0:Int),(0:Int),(0:Int)),b0,b1,b2,b3,b4,b5,b6,b7,b8,b9)) (by
  rw [Tr.rR,Bool.not_false,zC];rfl)).trans ?_
 rw [Tr.rR,zC];rfl
theorem awake_eq:LQ.awake11=some true:=by
 obtain ⟨ss,hss,hb⟩:=awake_build
 obtain ⟨d1,d2,d3⟩:=hss 0 (by decide)
 have hsD:(ss 0).D=zSub:=d1
 have hs0:ss 0=⟨0,0,0,0,0,0,0,[],[],[]⟩:=by
  generalize ss 0=s at hsD
  obtain ⟨k,o,wst,pr,sf,m,ro,cs,ps,es⟩:=s
  unfold Sb.D zSub at hsD
  simp only [zP,and_true] at hsD
  obtain ⟨h1,h2,h3,h4,h5,h6,h7,h8,h9,h10⟩:=hsD
  have:k=0:=by omega
  have:o=0:=by omega
  have:wst=0:=by omega
  have:pr=0:=by omega
  have:sf=0:=by omega
  have:m=0:=by omega
  have:ro=0:=by omega
  subst_vars
  rfl
 generalize hT:frameA false 0 16 6 4 1 0 8000 1 8 ss (stP 0 [List.replicate 16 0])++beB (c16 (frameA false 0 16 6 4 1 0 8000 1 8 ss (stP 0 [List.replicate 16 0]))) 2=T at hb
 have hbits:bitsN ss 0 8 (stP 0 [List.replicate 16 0]) 1=(ss 0).bits 8 (List.replicate 16 0):=by
  rw [bitsN_succ,show bitsN ss 0 8 (stP 0 [List.replicate 16 0]) 0=[] from rfl];rfl
 have hbl:(bitsN ss 0 8 (stP 0 [List.replicate 16 0]) 1).length=16:=by
  rw [hbits,hs0];decide
 have hhv:headV false 0 16 6 4 1 0 8000=[255,248,100,2,0,15]:=by decide
 have hfr:frameA false 0 16 6 4 1 0 8000 1 8 ss (stP 0 [List.replicate 16 0])=([255,248,100,2,0,15]++[UInt8.ofNat (c8 [255,248,100,2,0,15])])++pk (bitsN ss 0 8 (stP 0 [List.replicate 16 0]) 1):=by
  unfold frameA headS
  rw [show (if (0:Nat)=0 then 1 - 1 else 7+0)=0 from rfl,hhv]
  rfl
 have hTl:T.length=11:=by
  rw [←hT,zL,beB_len,hfr,zL,pk_len,hbl];rfl
 have hT6:T.take 6=[255,248,100,2,0,15]:=by
  rw [←hT,hfr,List.append_assoc,List.append_assoc];rfl
 have hfit:∀ x∈(List.replicate 16 (0:Int)),fitsW 8 x:=fun x h=>by rw [List.eq_of_mem_replicate h];unfold fitsW;decide
 have hBlk:BlkOK (16:Int) 8 [List.replicate 16 0]:=fun l h=>by
  rw [List.mem_singleton.1 h]
  exact ⟨by decide,hfit⟩
 have hK:=awake_block
 have hP:=parse_back false 0 16 6 4 1 0 8000 1 8 [zSub] 16 4608 0 0 0 [] [List.replicate 16 0] ss [120] (by decide) (by decide) (by decide) (by decide) awake_fc rfl hBlk hK hss (by decide)
 have hP':LQ.fParse (T++[120]) (16,4608,0,0,8000,1,8,0,[],())=some ([List.replicate 16 0],(false,0,16,6,4,1,0,[zSub],()),11,0):=by
  refine Eq.trans ?_ (hP.trans ?_)
  ·rw [←hT];rfl
  ·congr 4
   show ((((_:List UInt8)).length:Nat):Int)=11
   have:(frameA false 0 16 6 4 1 0 8000 1 8 ss (stP 0 [List.replicate 16 0])++beB (c16 (frameA false 0 16 6 4 1 0 8000 1 8 ss (stP 0 [List.replicate 16 0]))) 2).length=11:=by rw [hT];exact hTl
   exact congrArg (fun n:Nat=>(n:Int)) this
 have hN:=parse_nohead [102,76,97,67] (16,4608,0,0,8000,1,8,0,[],()) (by decide) rfl
 have hI:LQ.fInfo=some (16,4608,0,0,8000,1,8,0,[],()):=rfl
 have hsame:=r11Same_self false 0 16 6 4 1 0 [zSub] (by decide) (fun d h=>by rw [List.mem_singleton.1 h];exact SubIn_z)
 unfold LQ.awake11 LQ.awake11.t
 rw [Tr.rB]
 refine (bindT hI).trans ?_
 rw [Tr.rN _ (by decide),Tr.rB]
 refine (bindT (a:=(T,(0:Int))) hb).trans ?_
 rw [Tr.rB]
 refine (bindT (a:=(false,false,(0:Int),(16:Int),(6:Int),(4:Int),(1:Int),(0:Int),[zSub])) (by
  rw [Tr.rR,show ((0:Int) != 0)=false from rfl,zc,Tr.rT]
  show some (Int.ofNat T.length != 11,_)=_
  rw [hTl];rfl)).trans ?_
 rw [Tr.rR,zc,Tr.rN _ (by show T.length+1<=_;omega),Tr.rB]
 refine (bindT hI).trans ?_
 rw [Tr.rB]
 refine (bindT hP').trans ?_
 rw [Tr.rB]
 refine (bindT hI).trans ?_
 rw [Tr.rB]
 refine (bindT hN).trans ?_
 rw [Tr.rB]
 refine (bindT (a:=true) (by
  rw [Tr.rN _ (by show (0:Int)<=0/\(0:Int)<=6/\(6:Int)<=Int.ofNat T.length;rw [hTl];decide),Tr.rR]
  show (bif (List.take 6 T == [255,248,100,2,0,15]) then _ else _)=_
  rw [hT6,show (([255,248,100,2,0,15]:List UInt8) == [255,248,100,2,0,15])=true from by decide,zC,Tr.rR]
  rw [show ((0:Int) == 0)=true from rfl,zC,Tr.rR,show ((11:Int) == 11)=true from rfl,zC,Tr.rR]
  rw [show (Int.ofNat ([List.replicate 16 (0:Int)]:List (List Int)).length == 1)=true from rfl,zC,Tr.rN _ (by decide),Tr.rR]
  rw [show (Int.ofNat (([List.replicate 16 (0:Int)]:List (List Int)).getD 0 []).length == 16)=true from by decide,zC,Tr.rB]
  refine (bindT hsame).trans ?_
  rw [Tr.rR,zC];rfl)).trans ?_
 rfl
end
end Go.Proofs.YtedcnpankkaboaaGreat.Dg
