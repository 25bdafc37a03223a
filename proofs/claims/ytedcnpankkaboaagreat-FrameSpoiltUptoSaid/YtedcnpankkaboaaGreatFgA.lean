/- FgA: FgA FgB FgC FgD FgE FgG FgH FgI FgJ FgK. -/
import Derived.Test.YtedcnpankkaboaaGreatFrX
import Derived.Test.YtedcnpankkaboaaGreatLmH
import Derived.Test.YtedcnpankkaboaaGreatFrY
set_option linter.unusedSimpArgs false
set_option linter.unusedVariables false
section
set_option maxRecDepth 10000
namespace Go.LM
open Go
theorem bindT {A B:Type} {o:Option A} {f:A->Option B} {a:A} (h:o=some a):o.bind f=f a:=by rw [h];rfl
theorem p2_nat (k n:Nat) (h:k<=n):p2 ((k:Nat):Int) n=((2 ^ k:Nat):Int):=by
 unfold p2
 rw [Int.toNat_natCast,Nat.min_eq_left h]
def val8 (f:Nat->Bool):Nat:=(f 0).toNat*128+(f 1).toNat*64+(f 2).toNat*32+(f 3).toNat*16+(f 4).toNat*8+(f 5).toNat*4+(f 6).toNat*2+(f 7).toNat
def byteB (bs:List Bool) (j:Nat):Nat:=val8 fun i=>bs.getD (8*j+i) false
def pk (bs:List Bool):List UInt8:=(List.range ((bs.length+7) / 8)).map fun j=>UInt8.ofNat (byteB bs j)
theorem pk_len (bs:List Bool):(pk bs).length=(bs.length+7) / 8:=by simp [pk]
theorem val8_lt (f:Nat->Bool):val8 f<256:=by
 unfold val8
 cases f 0<;>cases f 1<;>cases f 2<;>cases f 3<;>cases f 4<;>cases f 5<;>cases f 6<;>cases f 7<;>decide
theorem val8_congr {f g:Nat->Bool} (h:∀ i,i<8->f i=g i):val8 f=val8 g:=by
 unfold val8
 rw [h 0 (by decide),h 1 (by decide),h 2 (by decide),h 3 (by decide),h 4 (by decide),h 5 (by decide),h 6 (by decide),h 7 (by decide)]
theorem val8_put {f g:Nat->Bool} {i:Nat} {b:Bool} (hi:i<8) (h0:∀ k,i<=k->f k=false) (hg:∀ k,g k=if k=i then b else f k):val8 g=val8 f+b.toNat*2 ^ (7 - i)/\val8 f % 2 ^ (8 - i)=0:=by
 unfold val8
 rw [hg 0,hg 1,hg 2,hg 3,hg 4,hg 5,hg 6,hg 7]
 have:i=0\/i=1\/i=2\/i=3\/i=4\/i=5\/i=6\/i=7:=by omega
 rcases this with rfl|rfl|rfl|rfl|rfl|rfl|rfl|rfl<;>simp [h0]<;>omega
theorem getD_snoc (bs:List Bool) (b:Bool) (k:Nat):(bs++[b]).getD k false=if k=bs.length then b else bs.getD k false:=by
 rw [List.getD_eq_getElem?_getD,List.getD_eq_getElem?_getD]
 by_cases h:k<bs.length
 ·rw [List.getElem?_append_left h,if_neg (by omega)]
 ·rw [List.getElem?_append_right (by omega)]
  by_cases h2:k=bs.length
  ·subst h2;simp
  ·rw [if_neg h2,List.getElem?_eq_none (by simp;omega),List.getElem?_eq_none (by omega)]
theorem getD_out (bs:List Bool) (k:Nat) (h:bs.length<=k):bs.getD k false=false:=by
 rw [List.getD_eq_getElem?_getD,List.getElem?_eq_none h];rfl
theorem byteB_snoc_ne (bs:List Bool) (b:Bool) (j:Nat) (h:j≠bs.length / 8):byteB (bs++[b]) j=byteB bs j:=by
 unfold byteB
 apply val8_congr
 intro i hi
 rw [getD_snoc,if_neg (by omega)]
theorem byteB_snoc (bs:List Bool) (b:Bool):byteB (bs++[b]) (bs.length / 8)=byteB bs (bs.length / 8)+b.toNat*2 ^ (7 - bs.length % 8)/\byteB bs (bs.length / 8) % 2 ^ (8 - bs.length % 8)=0:=by
 unfold byteB
 refine val8_put (i:=bs.length % 8) (by omega) (fun k hk=>getD_out _ _ (by omega)) (fun k=>?_)
 rw [getD_snoc]
 by_cases h:k=bs.length % 8
 ·rw [if_pos h,if_pos (by omega)]
 ·rw [if_neg h,if_neg (by omega)]
theorem pk_snoc0 (bs:List Bool) (b:Bool) (h:bs.length % 8=0):pk (bs++[b])=pk bs++[UInt8.ofNat (b.toNat*128)]:=by
 have h1:((bs++[b]).length+7) / 8=(bs.length+7) / 8+1:=by simp;omega
 have h2:(bs.length+7) / 8=bs.length / 8:=by omega
 unfold pk
 rw [h1,List.range_succ,List.map_append,h2]
 congr 1
 ·apply List.map_congr_left
  intro j hj
  rw [byteB_snoc_ne bs b j (by have:=List.mem_range.1 hj;omega)]
 ·have h3:=(byteB_snoc bs b).1
  rw [List.map_cons,List.map_nil,h3,h]
  have h0:byteB bs (bs.length / 8)=0:=(val8_congr (g:=fun _=>false) fun i hi=>getD_out _ _ (by omega)).trans rfl
  rw [h0,Nat.zero_add]
theorem pk_snoc1 (bs:List Bool) (b:Bool) (h:bs.length % 8≠0):pk (bs++[b])=(pk bs).set (bs.length / 8) (UInt8.ofNat (byteB bs (bs.length / 8)+b.toNat*2 ^ (7 - bs.length % 8))):=by
 have h1:((bs++[b]).length+7) / 8=(bs.length+7) / 8:=by simp;omega
 unfold pk
 rw [h1]
 apply List.ext_getElem
 ·simp
 ·intro j h2 h3
  rw [List.getElem_set]
  simp only [List.getElem_map,List.getElem_range]
  split
  ·rename_i e
   rw [←e,(byteB_snoc bs b).1]
  ·rename_i e
   rw [byteB_snoc_ne bs b j (fun e2=>e e2.symm)]
theorem pk_last (bs:List Bool) (h:bs.length % 8≠0):(pk bs).getD (bs.length / 8) 0=UInt8.ofNat (byteB bs (bs.length / 8)):=by
 unfold pk
 rw [List.getD_eq_getElem?_getD,List.getElem?_map,List.getElem?_range (by omega)]
 rfl
theorem or8:∀ (v:Fin 256) (i:Fin 8),v.1 % 2 ^ (8 - i.1)=0->bitsI BinOp.or IntKind.u8 (v.1:Int) ((128 / 2 ^ i.1:Nat):Int)=((v.1+2 ^ (7 - i.1):Nat):Int):=by decide +kernel
end Go.LM
namespace Go.Proofs.YtedcnpankkaboaaGreat.Dg
open Go.LM
theorem bit_byte {v i:Nat} (hv:v<256) (hi:i<8) (h:v % 2 ^ (8 - i)=0) :
  (bitsI BinOp.or IntKind.u8 (Int.ofNat (UInt8.ofNat v).toNat) (Int.ofNat (UInt8.ofNat ((128:Int) / ((2 ^ i:Nat):Int) % (256:Int)).toNat).toNat) % (256:Int)).toNat % 256=(v+2 ^ (7 - i)) % 256:=by
 have h3:(128:Int) / ((2 ^ i:Nat):Int)=((128 / 2 ^ i:Nat):Int):=rfl
 have e1:((128:Int) / ((2 ^ i:Nat):Int) % (256:Int)).toNat=128 / 2 ^ i % 256:=by
  rw [h3]
  generalize 128 / 2 ^ i=q
  omega
 have e2:128 / 2 ^ i<=128:=Nat.div_le_self _ _
 rw [e1,UInt8.toNat_ofNat',UInt8.toNat_ofNat']
 simp only [zN]
 have h4:=or8 ⟨v,hv⟩ ⟨i,hi⟩ h
 simp only at h4
 have h5:128 / 2 ^ i % 256 % 2 ^ 8=128 / 2 ^ i:=by
  generalize 128 / 2 ^ i=q at e2
  omega
 rw [show v % 2 ^ 8=v from Nat.mod_eq_of_lt (by omega),h5,h4]
 generalize v+2 ^ (7 - i)=q
 omega
theorem u8_mod (m:Nat):UInt8.ofNat (m % 256)=UInt8.ofNat m:=by
 apply UInt8.toNat_inj.1
 rw [UInt8.toNat_ofNat',UInt8.toNat_ofNat']
 omega
theorem bit1_eq (bs:List Bool) (one:Bool) (h:bs.length<=281474976710656):LQ.bit1 one (bs.length:Int) (pk bs)=some (((bs.length+1:Nat):Int),pk (bs++[one])):=by
 have hl:=pk_len bs
 have hm:((bs.length:Int)).tmod 8=((bs.length % 8:Nat):Int):=rfl
 have hon:∀ row,LQ.on1 1 (bs.length:Int) row=some (((bs.length+1:Nat):Int),row):=fun row=>by
  unfold LQ.on1 LQ.on1.t
  rw [Tr.rT,w64_id (by omega)];rfl
 have hat:∀ row,LQ.at1 (bs.length:Int) row=some ((bs.length:Int),(bs.length:Int),row):=fun row=>rfl
 unfold LQ.bit1 LQ.bit1.t
 rw [Tr.rB,hat,zE]
 dsimp only
 rw [Tr.rN _ ⟨rfl,rfl,trivial⟩,Tr.rR,hm]
 by_cases h8:bs.length % 8=0
 ·rw [h8,show (((0:Nat):Int) == 0)=true from rfl,zC,Tr.rN _ (by rw [hl];omega),pk_snoc0 bs one h8]
  have hs:pk bs++(List.replicate 1 (0:UInt8)).set 0 0=pk bs++[0]:=rfl
  rw [hs,Tr.rB]
  cases one with
  |false=>
   rw [Tr.rR,zc,Tr.rT,zE]
   dsimp only
   rw [Tr.rB,hon]
   rfl
  |true=>
   have hl2:(pk bs++[(0:UInt8)]).length=bs.length / 8+1:=by rw [zL,hl];simp;omega
   have hw:w64 (Int.ofNat (pk bs++[(0:UInt8)]).length - 1)=((bs.length / 8:Nat):Int):=by rw [hl2];simp only [zN];rw [w64_id (by omega)];omega
   rw [Tr.rR,zC,hw,hl2]
   have m1:(0:Int)<=((bs.length / 8:Nat):Int)/\((bs.length / 8:Nat):Int)<Int.ofNat (bs.length / 8+1):=by simp only [zN];omega
   rw [Tr.rN _ m1,Tr.rB,hat,zE]
   dsimp only
   rw [Tr.rN _ ⟨rfl,rfl,trivial⟩,hm,h8,Tr.rN _ (by decide),Tr.rN _ m1,Tr.rT,zE]
   dsimp only
   rw [Tr.rB,hon,zE,Tr.rT]
   have hg:(pk bs++[(0:UInt8)]).getD (bs.length / 8) 0=0:=by
    rw [List.getD_eq_getElem?_getD,List.getElem?_append_right (by rw [hl];omega),hl,show bs.length / 8 - (bs.length+7) / 8=0 by omega];rfl
   rw [Int.toNat_natCast,hg]
   have hset:(pk bs++[(0:UInt8)]).set (bs.length / 8) 128=pk bs++[128]:=by
    rw [List.set_append_right _ _ (by rw [hl];omega),hl,show bs.length / 8 - (bs.length+7) / 8=0 by omega];rfl
   exact congrArg (fun x=>some (((bs.length+1:Nat):Int),x)) hset
 ·have hne:(((bs.length % 8:Nat):Int) == 0)=false:=beq_eq_false_iff_ne.2 (by omega)
  rw [hne,zc,Tr.rB,pk_snoc1 bs one h8]
  have hb:=byteB_snoc bs one
  have hl2:(pk bs).length=bs.length / 8+1:=by rw [hl];omega
  cases one with
  |false=>
   rw [Tr.rR,zc,Tr.rT,zE]
   dsimp only
   rw [Tr.rB,hon,zE,Tr.rT]
   have hset:(pk bs).set (bs.length / 8) (UInt8.ofNat (byteB bs (bs.length / 8)+false.toNat*2 ^ (7 - bs.length % 8)))=pk bs:=by
    rw [show (false:Bool).toNat=0 from rfl,Nat.zero_mul,Nat.add_zero,←pk_last bs h8]
    apply List.ext_getElem
    ·simp
    ·intro j h1 h2
     rw [List.getElem_set]
     split
     ·rename_i e
      subst e
      rw [getD_lt _ _ (by omega)]
     ·rfl
   rw [hset]
  |true=>
   have hw:w64 (Int.ofNat (pk bs).length - 1)=((bs.length / 8:Nat):Int):=by rw [hl2];simp only [zN];rw [w64_id (by omega)];omega
   rw [Tr.rR,zC,hw,hl2]
   have m1:(0:Int)<=((bs.length / 8:Nat):Int)/\((bs.length / 8:Nat):Int)<Int.ofNat (bs.length / 8+1):=by simp only [zN];omega
   rw [Tr.rN _ m1,Tr.rB,zE]
   dsimp only
   rw [Tr.rN _ ⟨rfl,rfl,trivial⟩,hm,Tr.rN _ (by omega),Tr.rN _ m1,Tr.rT,zE]
   dsimp only
   rw [Tr.rB,hon,zE,Tr.rT,Int.toNat_natCast,pk_last bs h8,p2_nat _ _ (by omega)]
   have hv:byteB bs (bs.length / 8)<256:=val8_lt _
   have:=bit_byte hv (show bs.length % 8<8 by omega) hb.2
   rw [←u8_mod,this,u8_mod,show (true:Bool).toNat=1 from rfl,Nat.one_mul]
end Go.Proofs.YtedcnpankkaboaaGreat.Dg
end
section
set_option maxRecDepth 10000
namespace Go.LM
open Go
def bitsOf (x W:Nat):List Bool:=(List.range W).map fun k=>x / 2 ^ (W - 1 - k) % 2 == 1
theorem zG (x W:Nat):(bitsOf x W).length=W:=by simp [bitsOf]
theorem and1 (y:Nat) (h:y<18446744073709551616):IntKind.u64.wrap (bitsI BinOp.and IntKind.u64 (y:Int) 1)=((y % 2:Nat):Int):=by
 have h1:(BitVec.ofInt 64 (y:Int))=BitVec.ofNat 64 y:=by apply BitVec.eq_of_toNat_eq;simp [BitVec.toNat_ofInt]
 have h2:(BitVec.ofInt 64 (1:Int))=BitVec.ofNat 64 (2 ^ 1 - 1):=by decide
 have key:(BitVec.ofNat 64 y &&& BitVec.ofNat 64 (2 ^ 1 - 1)).toNat=y % 2:=by
  rw [BitVec.toNat_and,BitVec.toNat_ofNat,BitVec.toNat_ofNat,Nat.mod_eq_of_lt (by omega),Nat.mod_eq_of_lt (by decide),Nat.and_two_pow_sub_one_eq_mod]
 rw [←h1,←h2] at key
 have:bitsI BinOp.and IntKind.u64 (y:Int) 1=((y % 2:Nat):Int):=congrArg (fun x:Nat=>(x:Int)) key
 rw [this,u64_id (by omega)]
end Go.LM
namespace Go.Proofs.YtedcnpankkaboaaGreat.Dg
open Go.LM
theorem lay1_eq (bs:List Bool) (x W:Nat) (hx:x<18446744073709551616) (hW:W<=64) (h:bs.length<=140737488355328):LQ.lay1 ((x:Int),(W:Int)) (bs.length:Int) (pk bs)=some (((bs.length+W:Nat):Int),pk (bs++bitsOf x W)):=by
 unfold LQ.lay1 LQ.lay1.t
 have hlo:=loopO_steps (f:=fun (d:Int×Int×List UInt8)=>(LQ.lay1.l0 ((x:Int),(W:Int)) d.1 d.2.1 d.2.2).run)
  (fun k=>((W:Int) - 1 - (k:Int),((bs.length+k:Nat):Int),pk (bs++(bitsOf x W).take k))) (r:=(((bs.length+W:Nat):Int),pk (bs++bitsOf x W))) W (fun k hk=>by
   have hl:(bs++(bitsOf x W).take k).length=bs.length+k:=by rw [zL,List.length_take,zG];omega
   unfold LQ.lay1.l0
   dsimp only
   have e1:(W:Int) - 1 - (k:Int)=((W - 1 - k:Nat):Int):=by omega
   rw [e1,Tr.rR,zT (by omega),zC,Tr.rN _ (by omega),p2_nat _ _ (by omega)]
   have e2:(x:Int) / ((2 ^ (W - 1 - k):Nat):Int)=((x / 2 ^ (W - 1 - k):Nat):Int):=rfl
   have e3:x / 2 ^ (W - 1 - k)<18446744073709551616:=Nat.lt_of_le_of_lt (Nat.div_le_self _ _) hx
   rw [e2,and1 _ e3]
   have e4:((((x / 2 ^ (W - 1 - k)) % 2:Nat):Int) == 1)=(x / 2 ^ (W - 1 - k) % 2 == 1):=by
    rw [Bool.eq_iff_iff,beq_iff_eq,beq_iff_eq];omega
   rw [e4]
   have hb:=bit1_eq (bs++(bitsOf x W).take k) (x / 2 ^ (W - 1 - k) % 2 == 1) (by omega)
   rw [hl] at hb
   rw [Tr.rB,hb,zE,Tr.rT,w64_id (by omega)]
   have e5:(bitsOf x W).take (k+1)=(bitsOf x W).take k++[x / 2 ^ (W - 1 - k) % 2 == 1]:=by
    rw [List.take_succ_eq_append_getElem (by rw [zG];exact hk)]
    congr 2
    simp [bitsOf]
   rw [e5,←List.append_assoc]
   have e6:((W - 1 - k:Nat):Int) - 1=(W:Int) - 1 - ((k+1:Nat):Int):=by omega
   rw [e6]
   rfl) (by
   unfold LQ.lay1.l0
   dsimp only
   rw [Tr.rR,zF (by omega),zc,Tr.rT,List.take_of_length_le (by rw [zG];omega)])
 simp only [List.take_zero,List.append_nil,Nat.add_zero] at hlo
 rw [Tr.rB]
 have e0:w64 ((W:Int) - 1)=(W:Int) - 1 - ((0:Nat):Int):=by rw [w64_id (by omega)];omega
 dsimp only
 rw [e0,hlo]
 rfl
theorem put1_eq (bs:List Bool) (x W:Nat) (hx:x<2 ^ W) (hW:W<64) (h:bs.length<=140737488355328):LQ.put1 ((x:Int),(W:Int)) (bs.length:Int) (pk bs)=some (0,((bs.length+W:Nat):Int),pk (bs++bitsOf x W)):=by
 have hp:2 ^ W<=2 ^ 63:=Nat.pow_le_pow_right (by decide) (by omega)
 have hl:=lay1_eq bs x W (by omega) (by omega) h
 unfold LQ.put1 LQ.put1.t
 have d1:decide ((W:Int)<0)=false:=zF (by omega)
 have d2:decide ((W:Int)>64)=false:=zF (by omega)
 have d3:decide ((W:Int)<64)=true:=zT (by omega)
 have d4:decide ((x:Int)>=IntKind.u64.wrap ((1:Int)*p2 (W:Int) 64))=false:=by
  rw [p2_nat _ _ (by omega)]
  generalize 2 ^ W=q at hx hp
  rw [u64_id (by omega)]
  exact zF (by omega)
 rw [Tr.rR,zc,Tr.rB]
 simp only [Tr.rR,d1,d2,d3,zc,zC]
 rw [Tr.rN _ (by omega),Tr.rT,zE]
 dsimp only
 rw [d4,zc,Tr.rB,hl]
 rfl
theorem bfits_eq (n:Int) (W:Nat) (h1:1<=W) (h2:W<=63) (hn:-((2 ^ (W - 1):Nat):Int)<=n/\n<((2 ^ (W - 1):Nat):Int)):LQ.bfits n (W:Int)=some true:=by
 have hp:2 ^ (W - 1)<=2 ^ 62:=Nat.pow_le_pow_right (by decide) (by omega)
 have hp0:=Nat.two_pow_pos (W - 1)
 unfold LQ.bfits LQ.bfits.t
 have e1:w64 ((W:Int) - 1)=((W - 1:Nat):Int):=by rw [w64_id (by omega)];omega
 rw [Tr.rB,Tr.rR,zT (by omega),zC,Tr.rR,zT (by omega),zC,e1,Tr.rN _ (by omega),p2_nat _ _ (by omega),Tr.rT,zE,Tr.rT]
 generalize 2 ^ (W - 1)=q at hn hp hp0
 have:(n / (q:Int) == n / 9223372036854775808)=true:=by
  rw [beq_iff_eq]
  by_cases hneg:n<0
  ·have a:n / (q:Int)=-1:=by
    apply Int.le_antisymm
    ·have:=Int.ediv_lt_of_lt_mul (a:=n) (b:=0) (c:=(q:Int)) (by omega) (by omega);omega
    ·exact (Int.le_ediv_iff_mul_le (by omega)).2 (by omega)
   rw [a];omega
  ·have a:n / (q:Int)=0:=Int.ediv_eq_zero_of_lt (by omega) (by omega)
   rw [a];omega
 rw [this]
def two64 (n:Int):Nat:=(n % 18446744073709551616).toNat
theorem sig1_eq (bs:List Bool) (n:Int) (W:Nat) (h1:1<=W) (h2:W<=63) (hn:-((2 ^ (W - 1):Nat):Int)<=n/\n<((2 ^ (W - 1):Nat):Int)) (h:bs.length<=140737488355328) :
  LQ.sig1 (n,(W:Int)) (bs.length:Int) (pk bs)=some (0,((bs.length+W:Nat):Int),pk (bs++bitsOf (two64 n) W)):=by
 have hw:IntKind.u64.wrap n=(two64 n:Int):=by rw [IntKind.wrap_u64];unfold two64;omega
 have hl:=lay1_eq bs (two64 n) W (by unfold two64;omega) (by omega) h
 unfold LQ.sig1 LQ.sig1.t
 dsimp only
 rw [Tr.rR,zc,Tr.rB,bfits_eq n W h1 h2 hn,zE,Tr.rR,Bool.not_true,zc,hw,Tr.rB,hl]
 rfl
end Go.Proofs.YtedcnpankkaboaaGreat.Dg
end
section
set_option maxRecDepth 10000
namespace Go.LM
open Go
abbrev SubD:Type:=Int×Int×Int×Int×Int×List Int×(Int×Int×List Int×List Int×Unit)×Unit
def subK (k wst:Int):SubD:=(k,0,wst,0,0,[],(0,0,[],[],()),())
end Go.LM
namespace Go.Proofs.YtedcnpankkaboaaGreat.Dg
open Go.LM
theorem Check_eq (k:Int) (hk:k=0\/k=1) (wst b W:Nat) (hb:1<=b/\b<=65535) (hW:1<=W/\W<=33) (hw:wst<W):LQ.Check (subK k wst) (b:Int) (W:Int)=some 0:=by
 have d1:decide ((b:Int)<1)=false:=zF (by omega)
 have d2:decide ((b:Int)>65535)=false:=zF (by omega)
 have d3:decide ((W:Int)<1)=false:=zF (by omega)
 have d4:decide ((W:Int)>33)=false:=zF (by omega)
 have d5:decide ((wst:Int)<0)=false:=zF (by omega)
 have d6:decide ((wst:Int)>=(W:Int))=false:=zF (by omega)
 have d7:decide ((0:Int)>(b:Int))=false:=zF (by omega)
 have hbare:∀ k,LQ.bare (k,0,(wst:Int),0,0,[],(0,0,[],[],()),())=some true:=fun k=>rfl
 unfold LQ.Check LQ.Check.t subK
 rcases hk with rfl|rfl
 ·simp only [Tr.rB,Tr.rR,Tr.rT,Tr.run_csl,Tr.run_csr,zE,d1,d2,d3,d4,d5,d6,d7,zC,zc,Int.reduceBEq,hbare]
  rfl
 ·simp only [Tr.rB,Tr.rR,Tr.rT,Tr.run_csl,Tr.run_csr,zE,d1,d2,d3,d4,d5,d6,d7,zC,zc,Int.reduceBEq,hbare]
  rfl
theorem sfits_eq (n:Int) (W:Nat) (h1:1<=W) (h2:W<=63) (hn:-((2 ^ (W - 1):Nat):Int)<=n/\n<((2 ^ (W - 1):Nat):Int)):LQ.sfits n (W:Int)=some true:=by
 have h:=bfits_eq n W h1 h2 hn
 unfold LQ.bfits LQ.bfits.t at h
 rw [Tr.rB,Tr.rR,zT (by omega),zC,Tr.rR,zT (by omega),zC] at h
 unfold LQ.sfits LQ.sfits.t
 obtain ⟨b,hb1,hb2⟩:=zB.1 h
 rw [hb1];exact hb2
theorem Shift_eq (l:List Int) (wst:Nat) (hw:wst<=31) (hl:l.length<=1048576) (hd:∀ n∈l,n / ((2 ^ wst:Nat):Int)*((2 ^ wst:Nat):Int)=n/\-9223372036854775808<=n/\n<9223372036854775808):LQ.Shift l (wst:Int)=some (l.map (fun n=>n / ((2 ^ wst:Nat):Int)),0):=by
 unfold LQ.Shift LQ.Shift.t
 have hlo:=loopO_steps (f:=fun (d:Int×List Int)=>(LQ.Shift.l0 l (wst:Int) d.1 d.2).run) (fun k=>((k:Int),(l.map (fun n=>n / ((2 ^ wst:Nat):Int))).take k)) (r:=.inr (l.map (fun n=>n / ((2 ^ wst:Nat):Int)))) l.length (fun k hk=>by
  have hm:=hd (l.getD k 0) (by rw [getD_lt _ _ hk];exact List.getElem_mem hk)
  unfold LQ.Shift.l0
  dsimp only
  rw [Tr.rR,zT (by simp only [zN];omega),zC,Tr.rN _ (by simp only [zN];omega),Tr.rN _ (by omega),Tr.rN _ (by omega),p2_nat _ _ (by omega),Int.toNat_natCast,Tr.rR]
  rw [hm.1,w64_id hm.2,bne_self_eq_false,zc,Tr.rN _ (by omega),Tr.rN _ (by simp only [List.length_take,List.length_map,List.length_set,List.length_replicate];omega),Tr.rT,w64_id (by omega)]
  have e:(l.map (fun n=>n / ((2 ^ wst:Nat):Int))).take (k+1)=(l.map (fun n=>n / ((2 ^ wst:Nat):Int))).take k++[l.getD k 0 / ((2 ^ wst:Nat):Int)]:=by
   rw [List.take_succ_eq_append_getElem (by rw [List.length_map];exact hk),List.getElem_map,getD_lt _ _ hk]
  rw [e];rfl) (by
  unfold LQ.Shift.l0
  dsimp only
  rw [Tr.rR,zF (by simp only [zN];omega),zc,Tr.rT,List.take_of_length_le (by rw [List.length_map];exact Nat.le_refl _)])
 have d1:decide ((wst:Int)<0)=false:=zF (by omega)
 have d2:decide ((wst:Int)>31)=false:=zF (by omega)
 rw [Tr.rB,Tr.rR,d1,zc,Tr.rT,zE,d2,Tr.rR,zc,Tr.rB]
 refine (congrArg (fun o=>Option.bind o _) (show loopO (fun (d:Int×List Int)=>(LQ.Shift.l0 l (wst:Int) d.1 d.2).run) ((0:Int),[])=_ from hlo)).trans ?_
 rfl
theorem goes_eq (k:Int) (wst W:Nat) (l:List Int) (hw:wst<=31) (hW:1<=W/\W<=33) (hl:l.length<=1048576) (hd:∀ n∈l,n / ((2 ^ wst:Nat):Int)*((2 ^ wst:Nat):Int)=n) (hf:∀ n∈l,-((2 ^ (W - 1):Nat):Int)<=n/\n<((2 ^ (W - 1):Nat):Int)) (hc:k=0->∀ n∈l,n=l.getD 0 0) :
  LQ.goes (subK k wst) (W:Int) l=some (l.map (fun n=>n / ((2 ^ wst:Nat):Int)),true):=by
 have hp:2 ^ (W - 1)<=2 ^ 62:=Nat.pow_le_pow_right (by decide) (by omega)
 have hS:=Shift_eq l wst hw hl (fun n hn=>⟨hd n hn,by have:=hf n hn;omega,by have:=hf n hn;omega⟩)
 unfold LQ.goes LQ.goes.t subK
 dsimp only
 have hlo:=loopO_steps (f:=(fun (d:Int×Int×Int×Int×Int×Int×List Int×Int×Int×List Int×List Int)=>(LQ.goes.l0 (W:Int) l d.1 d.2.1 d.2.2.1 d.2.2.2.1 d.2.2.2.2.1 d.2.2.2.2.2.1 d.2.2.2.2.2.2.1 d.2.2.2.2.2.2.2.1 d.2.2.2.2.2.2.2.2.1 d.2.2.2.2.2.2.2.2.2.1 d.2.2.2.2.2.2.2.2.2.2).run)) (fun i=>((i:Int),k,(0:Int),(wst:Int),(0:Int),(0:Int),[],(0:Int),(0:Int),[],[])) (r:=.inr (k,(0:Int),(wst:Int),(0:Int),(0:Int),[],(0:Int),(0:Int),[],[])) l.length (fun i hi=>by
  have hmem:l.getD i 0∈l:=by rw [getD_lt _ _ hi];exact List.getElem_mem hi
  have hs:=sfits_eq (l.getD i 0) W (by omega) (by omega) (hf _ hmem)
  unfold LQ.goes.l0
  dsimp only
  rw [Tr.rR,zT (by simp only [zN];omega),zC,Tr.rN _ (by simp only [zN];omega),Int.toNat_natCast,Tr.rB,Tr.rB,hs,zE,Bool.not_true,Tr.rR,zc,Tr.rR]
  cases hk:k == 0 with
  |true=>
   have h0:=hc (beq_iff_eq.1 hk) _ hmem
   rw [zC,Tr.rN _ (by simp only [zN];omega),Tr.rT,zE,←h0,bne_self_eq_false,Tr.rR,zc,Tr.rT,w64_id (by omega)]
   rfl
  |false=>
   rw [zc,Tr.rT,zE,Tr.rR,zc,Tr.rT,w64_id (by omega)]
   rfl) (by
  unfold LQ.goes.l0
  dsimp only
  rw [Tr.rR,zF (by simp only [zN];omega),zc,Tr.rT])
 rw [Tr.rB]
 refine (congrArg (fun o=>Option.bind o _) (show loopO _ ((0:Int),k,(0:Int),(wst:Int),(0:Int),(0:Int),[],(0:Int),(0:Int),[],[])=_ from hlo)).trans ?_
 rw [zE,Tr.run_csr,Tr.rB]
 dsimp only
 rw [hS]
 rfl
end Go.Proofs.YtedcnpankkaboaaGreat.Dg
end
section
set_option maxRecDepth 10000
namespace Go.LM
open Go
def wsBits (wst:Nat):List Bool:=bif wst == 0 then bitsOf 0 1 else bitsOf 1 1++(List.replicate (wst - 1) false++[true])
def sgBits (W:Nat) (l:List Int):List Bool:=l.flatMap fun n=>bitsOf ((n % 18446744073709551616).toNat) W
theorem sgBits_len (W:Nat):∀ (l:List Int),(sgBits W l).length=l.length*W
 | []=>by simp [sgBits]
 |n::l=>by
  have:=sgBits_len W l
  simp only [sgBits,List.flatMap_cons,zL,zG,List.length_cons,Nat.add_mul,Nat.one_mul] at this ⊢
  omega
theorem wsBits_len (wst:Nat):(wsBits wst).length=wst+1:=by
 unfold wsBits
 cases h:wst == 0 with
 |true=>rw [beq_iff_eq.1 h];rfl
 |false=>
  have:=beq_eq_false_iff_ne.1 h
  rw [zc];simp [zG];omega
end Go.LM
namespace Go.Proofs.YtedcnpankkaboaaGreat.Dg
open Go.LM
end Go.Proofs.YtedcnpankkaboaaGreat.Dg
end
section
set_option maxRecDepth 10000
namespace Go.LM
open Go
def valB (l:List Bool):Nat:=l.foldl (fun a b=>2*a+b.toNat) 0
theorem valB_snoc (l:List Bool) (b:Bool):valB (l++[b])=2*valB l+b.toNat:=by simp [valB]
theorem toNat_lt2 (b:Bool):b.toNat<2:=by cases b<;>decide
theorem valB_lt (l:List Bool):valB l<2 ^ l.length:=by
 suffices h:∀ n (l:List Bool),l.length=n->valB l<2 ^ n from h _ l rfl
 intro n
 induction n with
 |zero=>intro l hl;rw [List.length_eq_zero_iff.1 hl];decide
 |succ n ih=>
  intro l hl
  have hne:l≠[]:=fun e=>by rw [e] at hl;cases hl
  have e:=List.dropLast_concat_getLast hne
  rw [←e,valB_snoc,Nat.pow_succ]
  have:=ih l.dropLast (by rw [List.length_dropLast];omega)
  have:=toNat_lt2 (l.getLast hne)
  omega
theorem bitsOf_snoc (x W:Nat):bitsOf x (W+1)=bitsOf (x / 2) W++[x % 2 == 1]:=by
 unfold bitsOf
 rw [List.range_succ,List.map_append]
 congr 1
 ·apply List.map_congr_left
  intro k hk
  have hk:=List.mem_range.1 hk
  rw [Nat.div_div_eq_div_mul,←Nat.pow_succ',show (W - 1 - k).succ=W+1 - 1 - k by omega]
 ·simp
theorem valB_bitsOf:∀ (W x:Nat),valB (bitsOf x W)=x % 2 ^ W
 |0,x=>by simp [bitsOf,valB,Nat.mod_one]
 |W+1,x=>by
  rw [bitsOf_snoc,valB_snoc,valB_bitsOf W (x / 2)]
  have h:(x % 2 == 1).toNat=x % 2:=by
   have:x % 2=0\/x % 2=1:=by omega
   rcases this with h|h<;>rw [h]<;>rfl
  rw [h,Nat.pow_succ',Nat.mod_mul];omega
theorem val8_bit:∀ (a b c d e f g h:Bool) (i:Fin 8),(a.toNat*128+b.toNat*64+c.toNat*32+d.toNat*16+e.toNat*8+f.toNat*4+g.toNat*2+h.toNat) / 2 ^ (7 - i.1) % 2=([a,b,c,d,e,f,g,h].getD i.1 false).toNat:=by decide
theorem byteB_bit (bs:List Bool) (j i:Nat) (hi:i<8):byteB bs j / 2 ^ (7 - i) % 2=(bs.getD (8*j+i) false).toNat:=by
 unfold byteB val8
 refine (val8_bit _ _ _ _ _ _ _ _ ⟨i,hi⟩).trans ?_
 have:i=0\/i=1\/i=2\/i=3\/i=4\/i=5\/i=6\/i=7:=by omega
 rcases this with rfl|rfl|rfl|rfl|rfl|rfl|rfl|rfl<;>rfl
theorem pk_getD (bs:List Bool) (j:Nat) (h:j<(bs.length+7) / 8):(pk bs).getD j 0=UInt8.ofNat (byteB bs j):=by
 unfold pk
 rw [List.getD_eq_getElem?_getD,List.getElem?_map,List.getElem?_range h];rfl
theorem or_bit (n b:Nat) (hn:n<9223372036854775808) (hb:b<2):IntKind.u64.wrap (bitsI BinOp.or IntKind.u64 (IntKind.u64.wrap ((n:Int)*2)) (b:Int))=((2*n+b:Nat):Int):=by
 have e0:IntKind.u64.wrap ((n:Int)*2)=((2*n:Nat):Int):=by rw [u64_id (by omega)];omega
 have h1:(BitVec.ofInt 64 ((2*n:Nat):Int))=BitVec.ofNat 64 (2*n):=by apply BitVec.eq_of_toNat_eq;simp [BitVec.toNat_ofInt];omega
 have h2:(BitVec.ofInt 64 (b:Int))=BitVec.ofNat 64 b:=by apply BitVec.eq_of_toNat_eq;simp [BitVec.toNat_ofInt]
 have key:(BitVec.ofNat 64 (2*n) ||| BitVec.ofNat 64 b).toNat=2*n+b:=by
  rw [BitVec.toNat_or,BitVec.toNat_ofNat,BitVec.toNat_ofNat,Nat.mod_eq_of_lt (by omega),Nat.mod_eq_of_lt (by omega)]
  have:=Nat.two_pow_add_eq_or_of_lt (i:=1) (b:=b) (by omega) n
  rw [Nat.pow_one] at this
  exact this.symm
 rw [←h1,←h2] at key
 have:bitsI BinOp.or IntKind.u64 ((2*n:Nat):Int) (b:Int)=((2*n+b:Nat):Int):=congrArg (fun x:Nat=>(x:Int)) key
 rw [e0,this,u64_id (by omega)]
def Bat (all:List Bool) (a:Nat) (mid:List Bool):Prop:=∃ pre post,all=pre++(mid++post)/\pre.length=a
theorem Bat.left {all:List Bool} {a:Nat} {x y:List Bool} (h:Bat all a (x++y)):Bat all a x:=by
 obtain ⟨p,q,h1,h2⟩:=h
 exact ⟨p,y++q,by rw [h1,List.append_assoc],h2⟩
theorem Bat.right {all:List Bool} {a:Nat} {x y:List Bool} (h:Bat all a (x++y)):Bat all (a+x.length) y:=by
 obtain ⟨p,q,h1,h2⟩:=h
 exact ⟨p++x,q,by rw [h1];simp only [List.append_assoc],by rw [zL,h2]⟩
theorem Bat.le {all:List Bool} {a:Nat} {x:List Bool} (h:Bat all a x):a+x.length<=all.length:=by
 obtain ⟨p,q,h1,h2⟩:=h
 rw [h1];simp only [zL];omega
theorem Bat.getD {all:List Bool} {a:Nat} {x:List Bool} (h:Bat all a x) (i:Nat) (hi:i<x.length):all.getD (a+i) false=x.getD i false:=by
 obtain ⟨p,q,h1,h2⟩:=h
 rw [h1,←h2,List.getD_eq_getElem?_getD,List.getElem?_append_right (by omega),show p.length+i - p.length=i by omega,List.getElem?_append_left hi,List.getD_eq_getElem?_getD]
end Go.LM
namespace Go.Proofs.YtedcnpankkaboaaGreat.Dg
open Go.LM
theorem peek_eq (bs:List Bool) (a:Nat) (ha:a<bs.length) (hb:bs.length<=281474976710656) (b0:Int):LQ.peek (a:Int) b0 (pk bs)=some (((bs.getD a false).toNat:Int),b0,pk bs):=by
 have e1:w64 ((a:Int).tdiv 8)=((a / 8:Nat):Int):=by
  have:(a:Int).tdiv 8=((a / 8:Nat):Int):=rfl
  rw [this,w64_id (by omega)]
 have e2:w64 ((7:Int) - (a:Int).tmod 8)=((7 - a % 8:Nat):Int):=by
  have:(a:Int).tmod 8=((a % 8:Nat):Int):=rfl
  rw [this,w64_id (by omega)];omega
 unfold LQ.peek LQ.peek.t
 rw [e1,e2,Tr.rN _ (by rw [pk_len];simp only [zN];omega),Tr.rN _ (by omega),Tr.rT,Int.toNat_natCast,pk_getD _ _ (by omega),p2_nat _ _ (by omega)]
 have hv:=val8_lt (fun i=>bs.getD (8*(a / 8)+i) false)
 have hbit:=byteB_bit bs (a / 8) (a % 8) (by omega)
 rw [show 8*(a / 8)+a % 8=a by omega] at hbit
 have e3:Int.ofNat (UInt8.ofNat (byteB bs (a / 8))).toNat=((byteB bs (a / 8):Nat):Int):=by
  rw [UInt8.toNat_ofNat',Nat.mod_eq_of_lt (show byteB bs (a / 8)<2 ^ 8 from hv)];rfl
 have e4:((byteB bs (a / 8):Nat):Int) / ((2 ^ (7 - a % 8):Nat):Int)=((byteB bs (a / 8) / 2 ^ (7 - a % 8):Nat):Int):=rfl
 have e5:byteB bs (a / 8) / 2 ^ (7 - a % 8)<256:=Nat.lt_of_le_of_lt (Nat.div_le_self _ _) hv
 rw [e3,e4]
 generalize byteB bs (a / 8) / 2 ^ (7 - a % 8)=q at e5 hbit
 have e6:(UInt8.ofNat ((q:Int) % 256).toNat).toNat=q:=by rw [UInt8.toNat_ofNat'];omega
 rw [e6]
 have e7:IntKind.u64.wrap (Int.ofNat q)=(q:Int):=by rw [u64_id (by simp only [zN];omega)];rfl
 rw [e7,and1 q (by omega),hbit]
theorem Left_eq (bs:List Bool) (a:Nat) (ha:a<=bs.length) (hb:bs.length<=281474976710656):LQ.Left (a:Int) (pk bs)=some (((8*((bs.length+7) / 8) - a:Nat):Int),(a:Int),pk bs):=by
 unfold LQ.Left LQ.Left.t
 rw [Tr.rR,zc,Tr.rB]
 refine (bindT (a:=((a:Int),(a:Int),pk bs)) rfl).trans ?_
 dsimp only
 rw [Tr.rN _ ⟨rfl,rfl,trivial⟩,Tr.rT,pk_len]
 have:w64 (w64 ((8:Int)*Int.ofNat ((bs.length+7) / 8)) - (a:Int))=((8*((bs.length+7) / 8) - a:Nat):Int):=by
  simp only [zN]
  rw [w64_id (x:=8*(((bs.length+7) / 8:Nat):Int)) (by omega),w64_id (by omega)];omega
 rw [this]
theorem Get_eq (all mid:List Bool) (a W:Nat) (h:Bat all a mid) (hl:mid.length=W) (hW:W<=64) (hb:all.length<=281474976710656):LQ.Get (W:Int) (a:Int) (pk all)=some ((((valB mid:Nat):Int),0),((a+W:Nat):Int),pk all):=by
 have hle:=h.le
 unfold LQ.Get LQ.Get.t
 have d1:decide ((W:Int)<0)=false:=zF (by omega)
 have d2:decide ((W:Int)>64)=false:=zF (by omega)
 rw [Tr.rR,zc,Tr.rB,Tr.rR,d1,zc,Tr.rT,zE,d2]
 dsimp only
 rw [Tr.rR,zc,Tr.rB,Left_eq all a (by omega) hb,zE]
 dsimp only
 have d3:decide (((8*((all.length+7) / 8) - a:Nat):Int)<(W:Int))=false:=zF (by omega)
 rw [Tr.rN _ ⟨rfl,rfl,trivial⟩,d3,Tr.rR,zc,Tr.rB]
 have hlo:=loopO_steps (f:=fun (d:Int×Int×Int×List UInt8)=>(LQ.Get.l0 (W:Int) d.1 d.2.1 d.2.2.1 d.2.2.2).run) (fun k=>(((valB (mid.take k):Nat):Int),(k:Int),(a:Int),pk all)) (r:=(((valB mid:Nat):Int),(a:Int),pk all)) W (fun k hk=>by
  have hat:LQ.atR (a:Int) (pk all)=some ((a:Int),(a:Int),pk all):=rfl
  have hp:=peek_eq all (a+k) (by omega) hb (a:Int)
  have hw:w64 ((a:Int)+(k:Int))=((a+k:Nat):Int):=by rw [w64_id (by omega)];omega
  unfold LQ.Get.l0
  dsimp only
  rw [zT (p:=(k:Int)<(W:Int)) (by omega),Tr.rR,zC,Tr.rB,hat,zE]
  dsimp only
  rw [Tr.rN _ ⟨rfl,rfl,trivial⟩,Tr.rB,hw,hp,zE]
  dsimp only
  rw [Tr.rN _ ⟨rfl,rfl,trivial⟩,Tr.rT,h.getD k (by omega)]
  have hv:=valB_lt (mid.take k)
  rw [List.length_take,Nat.min_eq_left (by omega)] at hv
  have hp2:2 ^ k<=2 ^ 63:=Nat.pow_le_pow_right (by decide) (by omega)
  have hm:mid.getD k false=mid[k]:=getD_lt _ _ (by omega)
  have e:=toNat_lt2 (mid.getD k false)
  rw [or_bit _ _ (by omega) e,w64_id (by omega)]
  have e2:mid.take (k+1)=mid.take k++[mid.getD k false]:=by rw [List.take_succ_eq_append_getElem (by omega),hm]
  rw [e2,valB_snoc]
  rfl) (by
  unfold LQ.Get.l0
  dsimp only
  rw [zF (by omega),Tr.rR,zc,Tr.rT,List.take_of_length_le (by omega)])
 refine (bindT (a:=(((valB mid:Nat):Int),(a:Int),pk all)) hlo).trans ?_
 dsimp only
 have hon:LQ.onR (W:Int) (a:Int) (pk all)=some (((a+W:Nat):Int),pk all):=by
  unfold LQ.onR LQ.onR.t
  rw [Tr.rT,w64_id (by omega)];rfl
 rw [Tr.rB,hon]
 rfl
theorem sx_eq (n:Int) (W:Nat) (h1:1<=W) (h2:W<=63) (hn:-((2 ^ (W - 1):Nat):Int)<=n/\n<((2 ^ (W - 1):Nat):Int)) :
  w64 (IntKind.u64.wrap (((two64 n % 2 ^ W:Nat):Int)*((2 ^ (64 - W):Nat):Int))) / ((2 ^ (64 - W):Nat):Int)=n:=by
 have hA:(2:Nat) ^ 64=2 ^ W*2 ^ (64 - W):=by rw [←Nat.pow_add];congr 1;omega
 have hB:(2:Nat) ^ 63=2 ^ (W - 1)*2 ^ (64 - W):=by rw [←Nat.pow_add];congr 1;omega
 have hC:(2:Nat) ^ W=2*2 ^ (W - 1):=by rw [←Nat.pow_succ'];congr 1;omega
 have hpos:0<2 ^ (64 - W):=Nat.pow_pos (by decide)
 have hP0:0<2 ^ (W - 1):=Nat.pow_pos (by decide)
 have hP62:2 ^ (W - 1)<=2 ^ 62:=Nat.pow_le_pow_right (by decide) (by omega)
 generalize hq:2 ^ (64 - W)=q at *
 generalize hp:2 ^ (W - 1)=p at *
 have hdvd:2 ^ W ∣ 18446744073709551616:=⟨q,by rw [←hA]⟩
 have e1:((two64 n % 2 ^ W:Nat):Int)=n % ((2 ^ W:Nat):Int):=by
  unfold two64
  have a1:0<=n % 18446744073709551616:=Int.emod_nonneg _ (by decide)
  have a2:(((n % 18446744073709551616).toNat % 2 ^ W:Nat):Int)=(n % 18446744073709551616) % ((2 ^ W:Nat):Int):=by
   rw [Int.natCast_emod,Int.toNat_of_nonneg a1]
  rw [a2]
  exact Int.emod_emod_of_dvd n (Int.natCast_dvd_natCast.2 hdvd)
 rw [e1,hC]
 have hAq:(2*p*q:Int)=18446744073709551616:=by
  have:=congrArg (fun x:Nat=>(x:Int)) hA
  simp only [hC,Nat.reducePow,Int.natCast_mul] at this
  exact this.symm
 have hBq:(p*q:Int)=9223372036854775808:=by
  have:(2:Int)*(p*q)=18446744073709551616:=by rw [←Int.mul_assoc];exact hAq
  omega
 have hq0:(0:Int)<(q:Int):=by omega
 by_cases hneg:n<0
 ·have e2:n % ((2*p:Nat):Int)=n+2*p:=by
   rw [←Int.add_emod_right (a:=n),Int.emod_eq_of_lt (by omega) (by omega)];omega
  have e3:(n+2*(p:Int))*(q:Int)=n*q+18446744073709551616:=by rw [Int.add_mul,hAq]
  have l1:n*(q:Int)<0:=Int.mul_neg_of_neg_of_pos hneg hq0
  have l2:-9223372036854775808<=n*(q:Int):=by
   have:=Int.mul_le_mul_of_nonneg_right (show -(p:Int)<=n from hn.1) (Int.le_of_lt hq0)
   rw [Int.neg_mul,hBq] at this;exact this
  rw [e2,e3]
  have e4:IntKind.u64.wrap (n*(q:Int)+18446744073709551616)=n*q+18446744073709551616:=u64_id (by omega)
  have e5:w64 (n*(q:Int)+18446744073709551616)=n*q:=by
   show IntKind.i64.wrap _=_
   rw [IntKind.wrap_i64];omega
  rw [e4,e5]
  exact Int.mul_ediv_cancel _ (by omega)
 ·have e2:n % ((2*p:Nat):Int)=n:=Int.emod_eq_of_lt (by omega) (by omega)
  have l1:0<=n*(q:Int):=Int.mul_nonneg (by omega) (Int.le_of_lt hq0)
  have l2:n*(q:Int)<9223372036854775808:=by
   have:=Int.mul_lt_mul_of_pos_right (show n<(p:Int) from hn.2) hq0
   rw [hBq] at this;exact this
  rw [e2,u64_id (by omega),w64_id (by omega)]
  exact Int.mul_ediv_cancel _ (by omega)
theorem SignedR_eq (all:List Bool) (a W:Nat) (n:Int) (h:Bat all a (bitsOf (two64 n) W)) (h1:1<=W) (h2:W<=63) (hn:-((2 ^ (W - 1):Nat):Int)<=n/\n<((2 ^ (W - 1):Nat):Int)) (hb:all.length<=281474976710656) :
  LQ.SignedR (W:Int) (a:Int) (pk all)=some ((n,0),((a+W:Nat):Int),pk all):=by
 have hg:=Get_eq all _ a W h (zG _ _) (by omega) hb
 rw [valB_bitsOf] at hg
 unfold LQ.SignedR LQ.SignedR.t
 have d1:decide ((W:Int)<1)=false:=zF (by omega)
 rw [Tr.rB,Tr.rR,zC,Tr.rT,zE,d1]
 dsimp only
 rw [Tr.rR,zc,Tr.rB,hg,zE]
 dsimp only
 have hw:w64 ((64:Int) - (W:Int))=((64 - W:Nat):Int):=by rw [w64_id (by omega)];omega
 rw [Tr.rR,bne_self_eq_false,zc,hw,Tr.rN _ (by omega),Tr.rN _ (by omega),Tr.rT,p2_nat _ _ (by omega),sx_eq n W h1 h2 hn]
end Go.Proofs.YtedcnpankkaboaaGreat.Dg
end
section
set_option maxRecDepth 10000
namespace Go.LM
open Go
theorem ofInt_nat (y:Nat):BitVec.ofInt 64 (y:Int)=BitVec.ofNat 64 y:=by apply BitVec.eq_of_toNat_eq;simp [BitVec.toNat_ofInt]
theorem xor_ones (y:Nat) (hy:y<18446744073709551616) (m:Int) (hm:BitVec.ofInt 64 m=BitVec.allOnes 64):(BitVec.ofInt 64 (y:Int) ^^^ BitVec.ofInt 64 m).toNat=18446744073709551615 - y:=by
 rw [hm,BitVec.xor_allOnes,ofInt_nat,BitVec.toNat_not,BitVec.toNat_ofNat,Nat.mod_eq_of_lt (by omega)]
theorem xor_nil (y:Nat) (hy:y<18446744073709551616):(BitVec.ofInt 64 (y:Int) ^^^ BitVec.ofInt 64 0).toNat=y:=by
 rw [show BitVec.ofInt 64 0=0#64 by decide,BitVec.xor_zero,ofInt_nat,BitVec.toNat_ofNat,Nat.mod_eq_of_lt (by omega)]
def zz (n:Int):Nat:=if n<0 then (-2*n - 1).toNat else (2*n).toNat
theorem zz_lt (n:Int) (h:-9223372036854775808<=n/\n<9223372036854775808):zz n<18446744073709551616:=by unfold zz;split<;>omega
theorem zz_back (n:Int) (h:-9223372036854775808<=n/\n<9223372036854775808):w64 (bitsI BinOp.xor IntKind.i64 (w64 (((zz n:Nat):Int) / (2:Int))) (w64 ((0:Int) - w64 (IntKind.u64.wrap (bitsI BinOp.and IntKind.u64 ((zz n:Nat):Int) (1:Int))))))=n:=by
 have hz:=zz_lt n h
 rw [and1 _ hz]
 by_cases hn:n<0
 ·have e0:zz n=(-2*n - 1).toNat:=by unfold zz;rw [if_pos hn]
  have e1:((zz n:Nat):Int) / 2=(((-n - 1).toNat:Nat):Int):=by omega
  have e2:((zz n % 2:Nat):Int)=1:=by omega
  rw [e1,e2,w64_id (x:=(((-n - 1).toNat:Nat):Int)) (by omega),w64_id (x:=(1:Int)) (by omega),w64_id (x:=(0:Int) - 1) (by omega)]
  have:bitsI BinOp.xor IntKind.i64 (((-n - 1).toNat:Nat):Int) (0 - 1)=((18446744073709551615 - (-n - 1).toNat:Nat):Int):=congrArg (fun x:Nat=>(x:Int)) (xor_ones (-n - 1).toNat (by omega) (0 - 1) (by decide))
  rw [this]
  show IntKind.i64.wrap _=_
  rw [IntKind.wrap_i64];omega
 ·have e0:zz n=(2*n).toNat:=by unfold zz;rw [if_neg hn]
  have e1:((zz n:Nat):Int) / 2=((n.toNat:Nat):Int):=by omega
  have e2:((zz n % 2:Nat):Int)=0:=by omega
  rw [e1,e2,w64_id (x:=((n.toNat:Nat):Int)) (by omega),w64_id (x:=(0:Int)) (by omega),w64_id (x:=(0:Int) - 0) (by omega)]
  have:bitsI BinOp.xor IntKind.i64 ((n.toNat:Nat):Int) (0 - 0)=((n.toNat:Nat):Int):=congrArg (fun x:Nat=>(x:Int)) (xor_nil n.toNat (by omega))
  rw [this,w64_id (by omega)];omega
theorem or_low (q low k:Nat) (hl:low<2 ^ k) (h:2 ^ k*q+low<18446744073709551616):IntKind.u64.wrap (bitsI BinOp.or IntKind.u64 (IntKind.u64.wrap (IntKind.u64.wrap (q:Int)*((2 ^ k:Nat):Int))) (low:Int))=((2 ^ k*q+low:Nat):Int):=by
 have hp:0<2 ^ k:=Nat.pow_pos (by decide)
 have hq:q<=2 ^ k*q:=Nat.le_mul_of_pos_left q hp
 have e0:IntKind.u64.wrap (IntKind.u64.wrap (q:Int)*((2 ^ k:Nat):Int))=((2 ^ k*q:Nat):Int):=by
  rw [u64_id (x:=(q:Int)) (by omega)]
  have:(q:Int)*((2 ^ k:Nat):Int)=((2 ^ k*q:Nat):Int):=by rw [←Int.natCast_mul,Nat.mul_comm]
  rw [this,u64_id (by omega)]
 have key:(BitVec.ofNat 64 (2 ^ k*q) ||| BitVec.ofNat 64 low).toNat=2 ^ k*q+low:=by
  rw [BitVec.toNat_or,BitVec.toNat_ofNat,BitVec.toNat_ofNat,Nat.mod_eq_of_lt (by omega),Nat.mod_eq_of_lt (by omega)]
  exact (Nat.two_pow_add_eq_or_of_lt hl q).symm
 rw [←ofInt_nat,←ofInt_nat] at key
 have:bitsI BinOp.or IntKind.u64 ((2 ^ k*q:Nat):Int) (low:Int)=((2 ^ k*q+low:Nat):Int):=congrArg (fun x:Nat=>(x:Int)) key
 rw [e0,this,u64_id (by omega)]
def unaB (n:Nat):List Bool:=List.replicate n false++[true]
theorem unaB_len (n:Nat):(unaB n).length=n+1:=by simp [unaB]
def riB (n:Int) (k:Nat):List Bool:=unaB (zz n / 2 ^ k)++bitsOf (zz n) k
theorem rep_add (a b:Nat):List.replicate a false++List.replicate b false=List.replicate (a+b) false:=List.replicate_append_replicate
theorem pk_zero8 (bs:List Bool) (h:bs.length % 8=0):pk (bs++List.replicate 8 false)=pk bs++[0]:=by
 have e:(pk (bs++List.replicate 8 false)).length=(pk bs++[0]).length:=by rw [pk_len,zL,zL,pk_len];simp;omega
 apply List.ext_getElem e
 intro i h1 h2
 rw [pk_len] at h1
 have hget:(pk (bs++List.replicate 8 false))[i]'(by rw [pk_len];exact h1)=UInt8.ofNat (byteB (bs++List.replicate 8 false) i):=by simp [pk]
 rw [hget]
 by_cases hi:i<bs.length / 8
 ·rw [List.getElem_append_left (by rw [pk_len];omega)]
  have:(pk bs)[i]'(by rw [pk_len];omega)=UInt8.ofNat (byteB bs i):=by simp [pk]
  rw [this]
  congr 1
  unfold byteB
  apply val8_congr
  intro k hk
  rw [List.getD_eq_getElem?_getD,List.getElem?_append_left (by omega),List.getD_eq_getElem?_getD]
 ·have hi2:i=bs.length / 8:=by simp only [zL,List.length_replicate] at h1;omega
  rw [List.getElem_append_right (by rw [pk_len];omega)]
  have h0:byteB (bs++List.replicate 8 false) i=0:=by
   refine (val8_congr (g:=fun _=>false) fun k hk=>?_).trans rfl
   rw [List.getD_eq_getElem?_getD,List.getElem?_append_right (by omega),List.getElem?_replicate]
   split<;>rfl
  rw [h0]
  simp
end Go.LM
namespace Go.Proofs.YtedcnpankkaboaaGreat.Dg
open Go.LM
theorem skip8 (g:Int×Int×List UInt8->Option (Int×Int×List UInt8⊕Int×Int×List UInt8)) (c:Nat)
  (hg:∀ (n:Nat) (bs:List Bool),bs.length+n<=140737488355328->g ((n:Int),(bs.length:Int),pk bs)=some (if c<=n/\bs.length % 8=0 then .inl (((n - 8:Nat):Int),((bs.length+8:Nat):Int),pk bs++[0]) else .inr ((n:Int),(bs.length:Int),pk bs))) (hc:8<=c) :
  ∀ (n:Nat) (bs:List Bool),bs.length+n<=140737488355328->∃ m,m+(c - 8)<=n+(c - 8)/\(n≠0->c=9->m<n)/\loopO g ((n:Int),(bs.length:Int),pk bs)=some (((n - m:Nat):Int),((bs.length+m:Nat):Int),pk (bs++List.replicate m false)):=by
 intro n
 induction n using Nat.strongRecOn with
 |ind n ih=>
  intro bs hb
  by_cases h:c<=n/\bs.length % 8=0
  ·obtain ⟨m,hm,hm2,hl⟩:=ih (n - 8) (by omega) (bs++List.replicate 8 false) (by simp;omega)
   refine ⟨8+m,by omega,by omega,?_⟩
   have hs:=hg n bs hb
   rw [if_pos h] at hs
   rw [loopO_next hs]
   rw [pk_zero8 bs h.2,zL,List.length_replicate] at hl
   rw [hl,List.append_assoc,rep_add,show n - 8 - m=n - (8+m) by omega,show bs.length+8+m=bs.length+(8+m) by omega]
  ·refine ⟨0,by omega,by omega,?_⟩
   have hs:=hg n bs hb
   rw [if_neg h] at hs
   rw [loopO_done hs,List.replicate_zero,List.append_nil]
   rfl
theorem on1_8 (bs:List Bool) (row:List UInt8) (h:bs.length<=140737488355328):LQ.on1 8 (bs.length:Int) row=some (((bs.length+8:Nat):Int),row):=by
 unfold LQ.on1 LQ.on1.t
 rw [Tr.rT,w64_id (by omega)];rfl
theorem una1_eq (n:Nat) (bs:List Bool) (hb:bs.length+n<=140737488355327):LQ.una1 (n:Int) (bs.length:Int) (pk bs)=some (((bs.length+(n+1):Nat):Int),pk (bs++unaB n)):=by
 have hat:∀ (bs:List Bool),LQ.at1 (bs.length:Int) (pk bs)=some ((bs.length:Int),(bs.length:Int),pk bs):=fun bs=>rfl
 have hmod:∀ (bs:List Bool),((bs.length:Int).tmod 8 == 0)=decide (bs.length % 8=0):=fun bs=>by
  have:(bs.length:Int).tmod 8=((bs.length % 8:Nat):Int):=rfl
  rw [this,Bool.eq_iff_iff,beq_iff_eq,decide_eq_true_eq];omega
 have g0:∀ (n:Nat) (bs:List Bool),bs.length+n<=140737488355328->(fun (d:Int×Int×List UInt8)=>(LQ.una1.l0 d.1 d.2.1 d.2.2).run) ((n:Int),(bs.length:Int),pk bs)=some (if 8<=n/\bs.length % 8=0 then .inl (((n - 8:Nat):Int),((bs.length+8:Nat):Int),pk bs++[0]) else .inr ((n:Int),(bs.length:Int),pk bs)):=fun n bs hb=>by
  unfold LQ.una1.l0
  dsimp only
  rw [Tr.rB,Tr.rR]
  by_cases h8:8<=n
  ·rw [zT (p:=(n:Int)>=8) (by omega),zC,Tr.rB,hat,zE]
   dsimp only
   rw [Tr.rN _ ⟨rfl,rfl,trivial⟩,Tr.rT,zE,hmod,Tr.rR]
   by_cases hm:bs.length % 8=0
   ·rw [zT hm,zC,if_pos ⟨h8,hm⟩,Tr.rN _ (by rw [pk_len];omega),Tr.rB]
    dsimp only
    rw [on1_8 bs _ (by omega),zE,Tr.rT,w64_id (by omega)]
    rw [show (n:Int) - 8=((n - 8:Nat):Int) by omega]
    rfl
   ·rw [zF hm,zc,if_neg (fun e=>hm e.2),Tr.rT]
  ·rw [zF (p:=(n:Int)>=8) (by omega),zc,Tr.rT,zE,Tr.rR,zc,if_neg (fun e=>h8 e.1),Tr.rT]
 have g2:∀ (n:Nat) (bs:List Bool),bs.length+n<=140737488355328->(fun (d:Int×Int×List UInt8)=>(LQ.una1.l2 d.1 d.2.1 d.2.2).run) ((n:Int),(bs.length:Int),pk bs)=some (if 9<=n/\bs.length % 8=0 then .inl (((n - 8:Nat):Int),((bs.length+8:Nat):Int),pk bs++[0]) else .inr ((n:Int),(bs.length:Int),pk bs)):=fun n bs hb=>by
  unfold LQ.una1.l2
  dsimp only
  rw [Tr.rB,Tr.rR]
  by_cases h8:9<=n
  ·rw [zT (p:=(n:Int)>8) (by omega),zC,Tr.rB,hat,zE]
   dsimp only
   rw [Tr.rN _ ⟨rfl,rfl,trivial⟩,Tr.rT,zE,hmod,Tr.rR]
   by_cases hm:bs.length % 8=0
   ·rw [zT hm,zC,if_pos ⟨h8,hm⟩,Tr.rN _ (by rw [pk_len];omega),Tr.rB]
    dsimp only
    rw [on1_8 bs _ (by omega),zE,Tr.rT,w64_id (by omega)]
    rw [show (n:Int) - 8=((n - 8:Nat):Int) by omega]
    rfl
   ·rw [zF hm,zc,if_neg (fun e=>hm e.2),Tr.rT]
  ·rw [zF (p:=(n:Int)>8) (by omega),zc,Tr.rT,zE,Tr.rR,zc,if_neg (fun e=>h8 e.1),Tr.rT]
 have l1:∀ (n:Nat) (bs:List Bool),bs.length+n<=140737488355327->loopO (fun (d:Int×Int×List UInt8)=>(LQ.una1.l1 d.1 d.2.1 d.2.2).run) ((n:Int),(bs.length:Int),pk bs)=some (((bs.length+n:Nat):Int),pk (bs++List.replicate n false)):=by
  intro n
  induction n using Nat.strongRecOn with
  |ind n ih=>
   intro bs hb
   by_cases h0:n=0
   ·subst h0
    refine (loopO_done (r:=((bs.length:Int),pk bs)) ?_).trans ?_
    ·unfold LQ.una1.l1
     dsimp only
     rw [Tr.rR,zF (by omega),zc,Tr.rT]
    ·rw [List.replicate_zero,List.append_nil];rfl
   ·have hb1:=bit1_eq bs false (by omega)
    have hl1:(bs++[false]).length=bs.length+1:=by simp
    obtain ⟨m,hm,hm2,hl⟩:=skip8 (fun (d:Int×Int×List UInt8)=>(LQ.una1.l2 d.1 d.2.1 d.2.2).run) 9 g2 (by decide) n (bs++[false]) (by rw [hl1];omega)
    have hm3:=hm2 h0 rfl
    rw [hl1] at hl
    have step:(fun (d:Int×Int×List UInt8)=>(LQ.una1.l1 d.1 d.2.1 d.2.2).run) ((n:Int),(bs.length:Int),pk bs)=some (.inl (((n - m - 1:Nat):Int),((bs.length+1+m:Nat):Int),pk (bs++[false]++List.replicate m false))):=by
     unfold LQ.una1.l1
     dsimp only
     rw [Tr.rR,zT (by omega),zC,Tr.rB,hb1,zE,Tr.rB]
     refine (bindT hl).trans ?_
     rw [Tr.rT,w64_id (by omega),show ((n - m:Nat):Int) - 1=((n - m - 1:Nat):Int) by omega]
    rw [loopO_next step]
    have:=ih (n - m - 1) (by omega) (bs++[false]++List.replicate m false) (by simp;omega)
    have e1:(bs++[false]++List.replicate m false).length=bs.length+1+m:=by simp;omega
    rw [e1] at this
    rw [this]
    have e2:bs++[false]++List.replicate m false++List.replicate (n - m - 1) false=bs++List.replicate n false:=by
     rw [show [false]=List.replicate 1 false from rfl,List.append_assoc,List.append_assoc,rep_add,rep_add]
     congr 2;omega
    rw [e2]
    have e3:bs.length+1+m+(n - m - 1)=bs.length+n:=by omega
    rw [e3]
 obtain ⟨m,hm,_,hl⟩:=skip8 (fun (d:Int×Int×List UInt8)=>(LQ.una1.l0 d.1 d.2.1 d.2.2).run) 8 g0 (by decide) n bs (by omega)
 unfold LQ.una1 LQ.una1.t
 rw [Tr.rB]
 refine (bindT hl).trans ?_
 dsimp only
 rw [Tr.rB]
 have h1:=l1 (n - m) (bs++List.replicate m false) (by simp;omega)
 have e1:(bs++List.replicate m false).length=bs.length+m:=by simp
 rw [e1,List.append_assoc,rep_add,show m+(n - m)=n by omega,show bs.length+m+(n - m)=bs.length+n by omega] at h1
 refine (bindT h1).trans ?_
 dsimp only
 rw [Tr.rB]
 have h2:=bit1_eq (bs++List.replicate n false) true (by simp;omega)
 have e2:(bs++List.replicate n false).length=bs.length+n:=by simp
 rw [e2] at h2
 rw [h2,List.append_assoc]
 rfl
theorem UnaryR_eq (all:List Bool) (a n:Nat) (h:Bat all a (unaB n)) (hn:n<=16777216) (hb:all.length<=281474976710656):LQ.UnaryR (a:Int) (pk all)=some (((n:Int),0),((a+(n+1):Nat):Int),pk all):=by
 have hle:=h.le
 rw [unaB_len] at hle
 have hat:LQ.atR (a:Int) (pk all)=some ((a:Int),(a:Int),pk all):=rfl
 have hbit:∀ i,i<=n->all.getD (a+i) false=decide (i=n):=fun i hi=>by
  rw [h.getD i (by rw [unaB_len];omega)]
  unfold unaB
  rw [List.getD_eq_getElem?_getD]
  by_cases hin:i=n
  ·rw [List.getElem?_append_right (by simp;omega),zT hin];simp [hin]
  ·rw [List.getElem?_append_left (by simp;omega),List.getElem?_replicate,if_pos (by omega),zF hin];rfl
 unfold LQ.UnaryR LQ.UnaryR.t
 rw [Tr.rR,zc,Tr.rB,Left_eq all a (by omega) hb,zE]
 dsimp only
 rw [Tr.rN _ ⟨rfl,rfl,trivial⟩,Tr.rB]
 generalize hL:(8*((all.length+7) / 8) - a)=L
 have hLn:n<L:=by omega
 have head:∀ k,k<=n->(Tr.br (decide ((k:Int)<(L:Int))) (Tr.bind (Int×Int×List UInt8) (LQ.atR (a:Int) (pk all)) ((0:Int),(0:Int),[]) fun (r1:Int×Int×List UInt8)=>Tr.need (r1.2.1=(a:Int)/\r1.2.2=pk all/\True) (Tr.bind (Int×Int×List UInt8) (LQ.peek (w64 (r1.1+(k:Int))) (a:Int) (pk all)) ((0:Int),(0:Int),[]) fun (r2:Int×Int×List UInt8)=>Tr.need (r2.2.1=(a:Int)/\r2.2.2=pk all/\True) (Tr.ret (r2.1 == (0:Int),(a:Int),pk all)))) (Tr.ret (false,(a:Int),pk all))).run=some (decide (k≠n),(a:Int),pk all):=fun k hk=>by
  have hp:=peek_eq all (a+k) (by omega) hb (a:Int)
  have hw:w64 ((a:Int)+(k:Int))=((a+k:Nat):Int):=by rw [w64_id (by omega)];omega
  rw [Tr.rR,zT (by omega),zC,Tr.rB,hat,zE]
  dsimp only
  rw [Tr.rN _ ⟨rfl,rfl,trivial⟩,Tr.rB,hw,hp,zE]
  dsimp only
  rw [Tr.rN _ ⟨rfl,rfl,trivial⟩,Tr.rT,hbit k hk]
  by_cases e:k=n
  ·rw [zT e,zF (p:=k≠n) (fun x=>x e)];rfl
  ·rw [zF e,zT (p:=k≠n) e];rfl
 have hlo:=loopO_steps (f:=fun (d:Int×Int×List UInt8)=>(LQ.UnaryR.l0 ((L:Int),(a:Int),pk all) d.1 d.2.1 d.2.2).run) (fun k=>((k:Int),(a:Int),pk all)) (r:=.inr ((n:Int),(a:Int),pk all)) n (fun k hk=>by
  unfold LQ.UnaryR.l0
  dsimp only
  rw [Tr.rB,head k (by omega),zE]
  dsimp only
  rw [zT (p:=k≠n) (by omega),Tr.rR,zC,w64_id (by omega),zF (p:=(k:Int)+1>16777216) (by omega),Tr.rR,zc,Tr.rT]
  rfl) (by
  unfold LQ.UnaryR.l0
  dsimp only
  rw [Tr.rB,head n (by omega),zE]
  dsimp only
  rw [zF (p:=n≠n) (fun x=>x rfl),Tr.rR,zc,Tr.rT])
 refine (bindT hlo).trans ?_
 rw [Tr.run_csr]
 dsimp only
 rw [Tr.rR,show ((n:Int) == (L:Int))=false from beq_eq_false_iff_ne.2 (by omega),zc,Tr.rB]
 have hon:LQ.onR (w64 ((n:Int)+1)) (a:Int) (pk all)=some (((a+(n+1):Nat):Int),pk all):=by
  unfold LQ.onR LQ.onR.t
  rw [Tr.rT,w64_id (x:=(n:Int)+1) (by omega),w64_id (by omega)];rfl
 rw [hon]
 rfl
theorem RiceR_eq (all:List Bool) (a k:Nat) (n:Int) (h:Bat all a (riB n k)) (hn:-9223372036854775808<=n/\n<9223372036854775808) (hk:k<=30) (hz:zz n / 2 ^ k<=16777216) (hb:all.length<=281474976710656):LQ.RiceR (k:Int) (a:Int) (pk all)=some ((n,0),((a+(riB n k).length:Nat):Int),pk all):=by
 have hu:=UnaryR_eq all a (zz n / 2 ^ k) h.left hz hb
 have hr:=h.right
 rw [unaB_len] at hr
 have hg:=Get_eq all _ _ k hr (zG _ _) (by omega) hb
 rw [valB_bitsOf] at hg
 have e2:(riB n k).length=zz n / 2 ^ k+1+k:=by unfold riB;rw [zL,unaB_len,zG]
 unfold LQ.RiceR LQ.RiceR.t
 have d1:decide ((k:Int)<0)=false:=zF (by omega)
 have d2:decide ((k:Int)>30)=false:=zF (by omega)
 rw [Tr.rR,zc,Tr.rB,Tr.rR,d1,zc,Tr.rT,zE,d2]
 dsimp only
 rw [Tr.rR,zc,Tr.rB,hu,zE]
 dsimp only
 rw [Tr.rR,bne_self_eq_false,zc,Tr.rB,hg,zE]
 dsimp only
 rw [Tr.rR,bne_self_eq_false,zc,Tr.rN _ (by omega),Tr.rT,p2_nat _ _ (by omega)]
 have hp:0<2 ^ k:=Nat.pow_pos (by decide)
 have hdm:2 ^ k*(zz n / 2 ^ k)+zz n % 2 ^ k=zz n:=Nat.div_add_mod _ _
 have hzl:=zz_lt n hn
 rw [or_low (zz n / 2 ^ k) (zz n % 2 ^ k) k (Nat.mod_lt _ hp) (by rw [hdm];exact hzl),hdm,zz_back n hn,e2,Nat.add_assoc a (zz n / 2 ^ k+1) k]
end Go.Proofs.YtedcnpankkaboaaGreat.Dg
end
section
set_option maxRecDepth 10000
namespace Go.LM
open Go
def sumP (cs l:List Int):Nat->Int
 |0=>0
 |i+1=>w64 (sumP cs l i+w64 (cs.getD i 0*l.getD (l.length - 1 - i) 0))
def predV (cs:List Int) (sh:Nat) (l:List Int):Int:=sumP cs l cs.length / ((2 ^ sh:Nat):Int)
def leftV (cs:List Int) (sh o:Nat) (l:List Int):List Int:=(List.range (l.length - o)).map fun j=>w64 (l.getD (o+j) 0 - predV cs sh (l.take (o+j)))
theorem leftV_len (cs:List Int) (sh o:Nat) (l:List Int):(leftV cs sh o l).length=l.length - o:=by simp [leftV]
theorem w64_range (x:Int):-9223372036854775808<=w64 x/\w64 x<9223372036854775808:=by
 show -9223372036854775808<=IntKind.i64.wrap x/\IntKind.i64.wrap x<9223372036854775808
 rw [IntKind.wrap_i64];omega
theorem w64_back (a p:Int) (h:-9223372036854775808<=a/\a<9223372036854775808):w64 (w64 (a - p)+p)=a:=by
 show IntKind.i64.wrap (IntKind.i64.wrap (a - p)+p)=a
 rw [IntKind.wrap_i64,IntKind.wrap_i64];omega
def fixedC:Nat->List Int
 |0=>[]
 |1=>[1]
 |2=>[2,-1]
 |3=>[3,-3,1]
 |_=>[4,-6,4,-1]
theorem fixedC_len (o:Nat) (h:o<=4):(fixedC o).length=o:=by
 have:o=0\/o=1\/o=2\/o=3\/o=4:=by omega
 rcases this with rfl|rfl|rfl|rfl|rfl<;>rfl
end Go.LM
namespace Go.Proofs.YtedcnpankkaboaaGreat.Dg
open Go.LM
theorem CloneI_eq (l:List Int) (h:l.length<=1048576):LQ.CloneI l=some l:=by
 unfold LQ.CloneI
 rw [if_pos (by omega)]
theorem pred1R_eq (l cs:List Int) (sh:Nat) (hc:cs.length<=l.length) (hl:l.length<=1048576) (hs:sh<=63):LQ.pred1R l cs (sh:Int)=some (predV cs sh l,l,cs,(sh:Int)):=by
 unfold LQ.pred1R LQ.pred1R.t
 rw [Tr.rB]
 have hlo:=loopO_steps (f:=fun (d:Int×Int×List Int×List Int×Int)=>(LQ.pred1R.l0 cs d.1 d.2.1 d.2.2.1 d.2.2.2.1 d.2.2.2.2).run) (fun k=>(sumP cs l k,(k:Int),l,cs,(sh:Int))) (r:=(sumP cs l cs.length,l,cs,(sh:Int))) cs.length (fun k hk=>by
  have hw:w64 (w64 (Int.ofNat l.length - 1) - (k:Int))=((l.length - 1 - k:Nat):Int):=by
   simp only [zN]
   rw [w64_id (x:=(l.length:Int) - 1) (by omega),w64_id (by omega)];omega
  unfold LQ.pred1R.l0
  dsimp only
  rw [Tr.rR,zT (by simp only [zN];omega),zC,Tr.rN _ (by simp only [zN];omega),hw,Tr.rN _ (by simp only [zN];omega),Tr.rT,w64_id (x:=(k:Int)+1) (by omega),Int.toNat_natCast,Int.toNat_natCast]
  rfl) (by
  unfold LQ.pred1R.l0
  dsimp only
  rw [Tr.rR,zF (by simp only [zN];omega),zc,Tr.rT])
 refine (bindT hlo).trans ?_
 dsimp only
 rw [Tr.rN _ (by omega),Tr.rT,p2_nat _ _ (by omega)]
 rfl
theorem whole_eq (l cs:List Int) (sh o:Nat) (hc:cs.length<=o) (ho:o<=l.length) (hl:l.length<=1048576) (hs:sh<=63) (hr:∀ x∈l,-9223372036854775808<=x/\x<9223372036854775808) :
  LQ.whole (l.take o,leftV cs sh o l) cs (sh:Int)=some (l,cs,(sh:Int)):=by
 unfold LQ.whole LQ.whole.t
 dsimp only
 rw [Tr.rB,CloneI_eq _ (by rw [List.length_take];omega),zE,Tr.rB]
 have hlo:=loopO_steps (f:=fun (d:Int×List Int×Int×List Int)=>(LQ.whole.l0 (l.take o,leftV cs sh o l) d.1 d.2.1 d.2.2.1 d.2.2.2).run) (fun k=>((k:Int),cs,(sh:Int),l.take (o+k))) (r:=(cs,(sh:Int),l)) (l.length - o) (fun k hk=>by
  have hp:=pred1R_eq (l.take (o+k)) cs sh (by rw [List.length_take];omega) (by rw [List.length_take];omega) hs
  unfold LQ.whole.l0
  dsimp only
  rw [Tr.rR,zT (by rw [leftV_len];simp only [zN];omega),zC,Tr.rN _ (by rw [leftV_len];simp only [zN];omega),Tr.rB,hp,zE]
  dsimp only
  rw [Tr.rN _ ⟨rfl,rfl,rfl,trivial⟩,Tr.rN _ (by simp only [List.length_take,List.length_set,List.length_replicate];omega),Tr.rT,w64_id (x:=(k:Int)+1) (by omega),Int.toNat_natCast]
  have e1:(leftV cs sh o l).getD k 0=w64 (l.getD (o+k) 0 - predV cs sh (l.take (o+k))):=by
   rw [getD_lt _ _ (by rw [leftV_len];exact hk)]
   simp [leftV]
  have e2:l.getD (o+k) 0=l[o+k]:=getD_lt _ _ (by omega)
  have e:l.take (o+(k+1))=l.take (o+k)++[l.getD (o+k) 0]:=by
   rw [←Nat.add_assoc,List.take_succ_eq_append_getElem (by omega),e2]
  rw [e1,w64_back _ _ (by rw [e2];exact hr _ (List.getElem_mem _)),e];rfl) (by
  unfold LQ.whole.l0
  dsimp only
  rw [Tr.rR,zF (by rw [leftV_len];simp only [zN];omega),zc,Tr.rT,List.take_of_length_le (by omega)])
 rw [Nat.add_zero] at hlo
 refine (bindT hlo).trans ?_
 rfl
theorem pOf_eq (cs:List Int) (sh:Int) (h:cs.length<=1048576):LQ.pOf cs sh=some (cs,sh):=by
 unfold LQ.pOf LQ.pOf.t
 rw [Tr.rB,CloneI_eq _ h];rfl
theorem pFixed_eq (o:Nat) (h:o<=4):LQ.pFixed (o:Int)=some (fixedC o,0):=by
 unfold LQ.pFixed LQ.pFixed.t
 rw [Tr.rN _ (by omega),Tr.rB,Int.toNat_natCast]
 have:o=0\/o=1\/o=2\/o=3\/o=4:=by omega
 rcases this with rfl|rfl|rfl|rfl|rfl<;>exact (bindT (pOf_eq _ _ (by decide))).trans rfl
theorem Unfixed_eq (o:Nat) (l:List Int) (h:o<=4) (ho:o<=l.length) (hl:l.length<=1048576) (hr:∀ x∈l,-9223372036854775808<=x/\x<9223372036854775808):LQ.Unfixed (o:Int) (l.take o) (leftV (fixedC o) 0 o l)=some (l,0):=by
 unfold LQ.Unfixed LQ.Unfixed.t
 have d1:decide ((o:Int)<0)=false:=zF (by omega)
 have d2:decide ((o:Int)>4)=false:=zF (by omega)
 have d3:(Int.ofNat (l.take o).length != (o:Int))=false:=by rw [List.length_take,Nat.min_eq_left ho];simp
 rw [Tr.rB,Tr.rR,d1,zc,Tr.rR,d2,zc,Tr.rT,zE,d3,Tr.rR,zc,Tr.rB,pFixed_eq o h,zE,Tr.rB]
 refine (bindT (whole_eq l (fixedC o) 0 o (by rw [fixedC_len o h];exact Nat.le_refl _) ho hl (by decide) hr)).trans ?_
 rfl
theorem pMay_eq (cs:List Int) (sh:Nat) (h1:1<=cs.length) (h2:cs.length<=32) (hs:sh<=31):LQ.pMay cs (sh:Int)=some true:=by
 unfold LQ.pMay LQ.pMay.t
 have d1:decide (Int.ofNat cs.length>=1)=true:=zT (by simp only [zN];omega)
 have d2:decide (Int.ofNat cs.length<=32)=true:=zT (by simp only [zN];omega)
 have d3:decide ((sh:Int)>=0)=true:=zT (by omega)
 have d4:decide ((sh:Int)<=31)=true:=zT (by omega)
 rw [Tr.rB,Tr.rR,d1,zC,Tr.rR,d2,zC,Tr.rR,d3,zC,Tr.rT,d4]
 rfl
theorem Unlpc_eq (cs l:List Int) (sh:Nat) (h1:1<=cs.length) (h2:cs.length<=32) (hs:sh<=31) (ho:cs.length<=l.length) (hl:l.length<=1048576) (hr:∀ x∈l,-9223372036854775808<=x/\x<9223372036854775808):LQ.Unlpc cs (sh:Int) (l.take cs.length) (leftV cs sh cs.length l)=some (l,0):=by
 unfold LQ.Unlpc LQ.Unlpc.t
 have d3:(Int.ofNat (l.take cs.length).length != Int.ofNat cs.length)=false:=by rw [List.length_take,Nat.min_eq_left ho];simp
 rw [Tr.rB,Tr.rB,pMay_eq cs sh h1 h2 hs,zE,Bool.not_true,Tr.rR,zc,Tr.rT,zE,d3,Tr.rR,zc,Tr.rB,pOf_eq cs _ (by omega),zE,Tr.rB]
 refine (bindT (whole_eq l cs sh cs.length (Nat.le_refl _) ho hl (by omega) hr)).trans ?_
 rfl
theorem Unshift_eq (l:List Int) (wst:Nat) (hw:wst<=31) (hl:l.length<=1048576) (hd:∀ n∈l,n / ((2 ^ wst:Nat):Int)*((2 ^ wst:Nat):Int)=n/\-9223372036854775808<=n/\n<9223372036854775808):LQ.Unshift (l.map (fun n=>n / ((2 ^ wst:Nat):Int))) (wst:Int)=some (l,0):=by
 unfold LQ.Unshift LQ.Unshift.t
 have hlo:=loopO_steps (f:=fun (d:Int×List Int)=>(LQ.Unshift.l0 (l.map (fun n=>n / ((2 ^ wst:Nat):Int))) (wst:Int) d.1 d.2).run) (fun k=>((k:Int),l.take k)) (r:=l) l.length (fun k hk=>by
  have hm:=hd (l.getD k 0) (by rw [getD_lt _ _ hk];exact List.getElem_mem hk)
  have e1:(l.map (fun n=>n / ((2 ^ wst:Nat):Int))).getD k 0=l.getD k 0 / ((2 ^ wst:Nat):Int):=by
   rw [getD_lt _ _ (by rw [List.length_map];exact hk),List.getElem_map,getD_lt _ _ hk]
  unfold LQ.Unshift.l0
  dsimp only
  rw [Tr.rR,zT (by rw [List.length_map];simp only [zN];omega),zC,Tr.rN _ (by rw [List.length_map];simp only [zN];omega),Tr.rN _ (by omega),p2_nat _ _ (by omega),Int.toNat_natCast,e1,hm.1,w64_id hm.2,Tr.rN _ (by simp only [List.length_take,List.length_set,List.length_replicate];omega),Tr.rT,w64_id (by omega)]
  have e:l.take (k+1)=l.take k++[l.getD k 0]:=by rw [List.take_succ_eq_append_getElem hk,getD_lt _ _ hk]
  rw [e];rfl) (by
  unfold LQ.Unshift.l0
  dsimp only
  rw [Tr.rR,zF (by rw [List.length_map];simp only [zN];omega),zc,Tr.rT,List.take_of_length_le (Nat.le_refl _)])
 have d1:decide ((wst:Int)<0)=false:=zF (by omega)
 have d2:decide ((wst:Int)>31)=false:=zF (by omega)
 rw [Tr.rB,Tr.rR,d1,zc,Tr.rT,zE,d2,Tr.rR,zc,Tr.rB]
 refine (bindT (a:=l) hlo).trans ?_
 rfl
end Go.Proofs.YtedcnpankkaboaaGreat.Dg
end
section
set_option maxRecDepth 10000
namespace Go.LM
open Go
theorem flat_split {α β:Type} (g:α->List β) (xs:List α) (j:Nat) (hj:j<xs.length):xs.flatMap g=(xs.take j).flatMap g++(g xs[j]++(xs.drop (j+1)).flatMap g):=by
 conv=>lhs;rw [←List.take_append_drop j xs,List.flatMap_append,List.drop_eq_getElem_cons hj,List.flatMap_cons]
theorem flat_step {α β:Type} (g:α->List β) (xs:List α) (j:Nat) (hj:j<xs.length):((xs.take (j+1)).flatMap g).length=((xs.take j).flatMap g).length+(g xs[j]).length:=by
 rw [List.take_succ_eq_append_getElem hj,List.flatMap_append,zL];simp
theorem Bat.item {α:Type} {all:List Bool} {a:Nat} {g:α->List Bool} {xs:List α} (h:Bat all a (xs.flatMap g)) (j:Nat) (hj:j<xs.length):Bat all (a+((xs.take j).flatMap g).length) (g xs[j]):=by
 rw [flat_split g xs j hj] at h
 exact h.right.left
def fitsW (W:Nat) (n:Int):Prop:=-((2 ^ (W - 1):Nat):Int)<=n/\n<((2 ^ (W - 1):Nat):Int)
def inR (n:Int):Prop:=-9223372036854775808<=n/\n<9223372036854775808
end Go.LM
namespace Go.Proofs.YtedcnpankkaboaaGreat.Dg
open Go.LM
def itB (k e:Int) (n:Int):List Bool:=if e<0 then riB n k.toNat else if 0<e then bitsOf (two64 n) e.toNat else []
def ptB (wide:Nat) (k e:Int) (l:List Int):List Bool:=(if e<0 then bitsOf k.toNat wide else bitsOf (2 ^ wide - 1) wide++bitsOf e.toNat 5)++l.flatMap (itB k e)
structure PtOK (wide:Nat) (k e:Int) (l:List Int):Prop where
 hw:wide=4\/wide=5
 k0:0<=k
 k1:k<((2 ^ wide - 1:Nat):Int)
 e0:-1<=e
 e1:e<=31
 ke:0<=e->k=0
 it:∀ n∈l,inR n/\(e<0->zz n / 2 ^ k.toNat<=16777216)/\(0<e->fitsW e.toNat n)/\(e=0->n=0)
theorem numbers_eq (all:List Bool) (a W:Nat) (l:List Int) (h:Bat all a (sgBits W l)) (h1:1<=W) (h2:W<=63) (hf:∀ n∈l,fitsW W n) (hl:l.length<=1048576) (hb:all.length<=281474976710656) :
  LQ.numbers ((l.length:Int),(W:Int)) (a:Int) (pk all)=some ((l,true),((a+l.length*W:Nat):Int),pk all):=by
 unfold LQ.numbers LQ.numbers.t
 rw [Tr.rB]
 have hlo:=loopO_steps (f:=fun (d:Int×(Int×List UInt8)×List Int)=>(LQ.numbers.l0 ((l.length:Int),(W:Int)) d.1 d.2.1 d.2.2).run) (fun k=>((k:Int),(((a+k*W:Nat):Int),pk all),l.take k)) (r:=.inr ((((a+l.length*W:Nat):Int),pk all),l)) l.length (fun k hk=>by
  have hi:=Bat.item (g:=fun n=>bitsOf ((n % 18446744073709551616).toNat) W) h k hk
  have hlen:((l.take k).flatMap (fun n:Int=>bitsOf ((n % 18446744073709551616).toNat) W)).length=k*W:=by
   have:=sgBits_len W (l.take k)
   rw [List.length_take,Nat.min_eq_left (by omega)] at this
   exact this
  rw [hlen] at hi
  have hs:=SignedR_eq all (a+k*W) W l[k] hi h1 h2 (hf _ (List.getElem_mem hk)) hb
  unfold LQ.numbers.l0
  dsimp only
  rw [Tr.rR,zT (by omega),zC,Tr.rB,hs,zE]
  dsimp only
  rw [Tr.rR,bne_self_eq_false,zc,Tr.rN _ (by simp only [List.length_take,List.length_set,List.length_replicate];omega),Tr.rT,w64_id (x:=(k:Int)+1) (by omega)]
  have e:l.take (k+1)=l.take k++[l[k]]:=List.take_succ_eq_append_getElem hk
  rw [e,Nat.add_mul,Nat.one_mul,←Nat.add_assoc];rfl) (by
  unfold LQ.numbers.l0
  dsimp only
  rw [Tr.rR,zF (by omega),zc,Tr.rT,List.take_of_length_le (Nat.le_refl _)])
 simp only [Nat.zero_mul,Nat.add_zero,List.take_zero] at hlo
 refine (bindT hlo).trans ?_
 rfl
theorem part_eq (all:List Bool) (a wide:Nat) (k e:Int) (l:List Int) (h:Bat all a (ptB wide k e l)) (ok:PtOK wide k e l) (hl:l.length<=65535) (hb:all.length<=281474976710656) :
  LQ.part ((l.length:Int),(wide:Int)) (a:Int) (pk all)=some ((l,k,e,true),((a+(ptB wide k e l).length:Nat):Int),pk all):=by
 obtain ⟨hw,k0,k1,e0,e1,ke,it⟩:=ok
 have hw5:wide<=5:=by omega
 have hpw:2 ^ wide<=32:=by rcases hw with rfl|rfl<;>decide
 have hpw2:16<=2 ^ wide:=by rcases hw with rfl|rfl<;>decide
 generalize hH:(if e<0 then bitsOf k.toNat wide else bitsOf (2 ^ wide - 1) wide++bitsOf e.toNat 5)=H
 have hP:ptB wide k e l=H++l.flatMap (itB k e):=by unfold ptB;rw [hH]
 rw [hP] at h
 have wE:w64 (w64 ((1:Int)*p2 (wide:Int) 64) - 1)=((2 ^ wide - 1:Nat):Int):=by
  rw [p2_nat _ _ (by omega)]
  generalize 2 ^ wide=q at hpw hpw2
  rw [w64_id (x:=(1:Int)*(q:Int)) (by omega),w64_id (by omega)];omega
 have hitem:∀ j (hj:j<l.length),(Tr.br (decide (e<(0:Int))) (Tr.bind ((Int×Int)×Int×List UInt8) (LQ.RiceR k (((a+H.length+((l.take j).flatMap (itB k e)).length:Nat):Int)) (pk all)) (((0:Int),(0:Int)),(0:Int),[]) fun (r5:(Int×Int)×Int×List UInt8)=>Tr.ret (r5.1.2,r5.1.1,(r5.2.1,r5.2.2),l.take j)) (Tr.bind (Int×Int×(Int×List UInt8)×List Int) (Tr.br (decide (e>(0:Int))) (Tr.bind ((Int×Int)×Int×List UInt8) (LQ.SignedR e (((a+H.length+((l.take j).flatMap (itB k e)).length:Nat):Int)) (pk all)) (((0:Int),(0:Int)),(0:Int),[]) fun (r6:(Int×Int)×Int×List UInt8)=>Tr.ret (r6.1.2,r6.1.1,(r6.2.1,r6.2.2),l.take j)) (Tr.ret ((0:Int),(0:Int),((((a+H.length+((l.take j).flatMap (itB k e)).length:Nat):Int)),pk all),l.take j))).run ((0:Int),(0:Int),((0:Int),[]),[]) fun (r7:Int×Int×(Int×List UInt8)×List Int)=>Tr.ret (r7.1,r7.2.1,(r7.2.2.1.1,r7.2.2.1.2),r7.2.2.2))).run
   = some (0,l[j],(((a+H.length+((l.take (j+1)).flatMap (itB k e)).length:Nat):Int),pk all),l.take j):=fun j hj=>by
  have hi:=Bat.item h.right j hj
  have hn:=it _ (List.getElem_mem hj)
  rw [flat_step _ _ _ hj,←Nat.add_assoc]
  generalize hpos:a+H.length+((l.take j).flatMap (itB k e)).length=pos at hi
  by_cases hneg:e<0
  ·have eit:itB k e l[j]=riB l[j] k.toNat:=by unfold itB;rw [if_pos hneg]
   rw [eit] at hi ⊢
   have hk30:k.toNat<=30:=by omega
   have hr:=RiceR_eq all pos k.toNat l[j] hi hn.1 hk30 (hn.2.1 hneg) hb
   rw [Int.toNat_of_nonneg k0] at hr
   rw [zT hneg,Tr.rR,zC,Tr.rB,hr];rfl
  ·by_cases hpos0:0<e
   ·have eit:itB k e l[j]=bitsOf (two64 l[j]) e.toNat:=by unfold itB;rw [if_neg hneg,if_pos hpos0]
    rw [eit] at hi ⊢
    have hr:=SignedR_eq all pos e.toNat l[j] hi (by omega) (by omega) (hn.2.2.1 hpos0) hb
    rw [Int.toNat_of_nonneg (by omega)] at hr
    rw [zF hneg,Tr.rR,zc,Tr.rB,zT (p:=e>0) hpos0,Tr.rR,zC,Tr.rB,hr,zE,Tr.rT,zE,Tr.rT,zG]
   ·have eit:itB k e l[j]=[]:=by unfold itB;rw [if_neg hneg,if_neg hpos0]
    have hn0:=hn.2.2.2 (by omega)
    rw [eit,hn0,zF hneg,Tr.rR,zc,Tr.rB,zF (p:=e>0) hpos0,Tr.rR,zc,Tr.rT,zE,Tr.rT];rfl
 have hlo:=loopO_steps (f:=fun (d:Int×(Int×List UInt8)×List Int)=>(LQ.part.l0 ((l.length:Int),(wide:Int)) (0,k,e,((a+H.length:Nat):Int),pk all) d.1 d.2.1 d.2.2).run) (fun j=>(0,(((a+H.length+((l.take j).flatMap (itB k e)).length:Nat):Int),pk all),l.take j)) (r:=(0,(((a+H.length+(l.flatMap (itB k e)).length:Nat):Int),pk all),l)) l.length (fun j hj=>by
  unfold LQ.part.l0
  dsimp only
  have hlt:(l.take j).length=j:=by rw [List.length_take];omega
  rw [hlt,Tr.rB,Tr.rR,zT (p:=Int.ofNat j<(l.length:Int)) (by simp only [zN];omega),zC,Tr.rT,zE]
  dsimp only
  rw [show ((0:Int) == 0)=true from rfl,Tr.rR,zC,Tr.rB]
  refine (bindT (hitem j hj)).trans ?_
  dsimp only
  rw [Tr.rN _ (by rw [hlt];simp only [List.length_set,List.length_replicate];omega),Tr.rT]
  have e:l.take (j+1)=l.take j++[l[j]]:=List.take_succ_eq_append_getElem hj
  rw [e];rfl) (by
  unfold LQ.part.l0
  dsimp only
  rw [List.take_of_length_le (Nat.le_refl _),Tr.rB,Tr.rR,zF (by simp only [zN];omega),zc,Tr.rT,zE,Tr.rR,zc,Tr.rT])
 simp only [List.take_zero,List.flatMap_nil,List.length_nil,Nat.add_zero] at hlo
 unfold LQ.part LQ.part.t
 dsimp only
 have tail:∀ (x:Tr ((List Int×Int×Int×Bool)×Int×List UInt8)),x.run=(Tr.need ((0:Int)<=(0:Int)/\((0:Int)<=if (65535:Int)<(l.length:Int) then (65535:Int) else (l.length:Int))/\(if (65535:Int)<(l.length:Int) then (65535:Int) else (l.length:Int)).toNat*(8:Nat)<=(140737488355328:Nat)) x).run:=fun x=>by
  rw [Tr.rN]
  rw [if_neg (by omega),Int.toNat_natCast];omega
 by_cases hneg:e<0
 ·have hHe:H=bitsOf k.toNat wide:=by rw [←hH,if_pos hneg]
  have hleft:=h.left
  rw [hHe] at hleft
  have hg:=Get_eq all _ a wide hleft (zG _ _) (by omega) hb
  rw [valB_bitsOf,Nat.mod_eq_of_lt (by omega),Int.toNat_of_nonneg k0] at hg
  have hHl:H.length=wide:=by rw [hHe,zG]
  have he1:e=-1:=by omega
  rw [Tr.rB,hg,zE]
  dsimp only
  have ne:(w64 k == ((2 ^ wide - 1:Nat):Int))=false:=by rw [w64_id (by omega)];exact beq_eq_false_iff_ne.2 (by omega)
  rw [Tr.rB,Tr.rR,show ((0:Int) == 0)=true from rfl,zC,Tr.rN _ (by omega),Tr.rT,zE,wE,ne]
  dsimp only
  rw [Tr.rB,Tr.rR,zc,Tr.rT,zE]
  dsimp only
  rw [←tail,Tr.rB]
  rw [hHl,he1] at hlo
  rw [w64_id (x:=k) (by omega)]
  refine (bindT hlo).trans ?_
  rw [Tr.rT,hP,zL,hHl,←Nat.add_assoc,he1]
  rfl
 ·have hHe:H=bitsOf (2 ^ wide - 1) wide++bitsOf e.toNat 5:=by rw [←hH,if_neg hneg]
  have hleft:=h.left
  rw [hHe] at hleft
  have hg:=Get_eq all _ a wide hleft.left (zG _ _) (by omega) hb
  rw [valB_bitsOf,Nat.mod_eq_of_lt (by omega)] at hg
  have h2:=hleft.right
  rw [zG] at h2
  have hg2:=Get_eq all _ (a+wide) 5 h2 (zG _ _) (by omega) hb
  rw [valB_bitsOf,Nat.mod_eq_of_lt (by omega),Int.toNat_of_nonneg (by omega)] at hg2
  have hHl:H.length=wide+5:=by rw [hHe,zL,zG,zG]
  have hk0:=ke (by omega)
  rw [Tr.rB,hg,zE]
  dsimp only
  have ne:(w64 ((2 ^ wide - 1:Nat):Int) == ((2 ^ wide - 1:Nat):Int))=true:=by rw [w64_id (by omega)];exact beq_self_eq_true _
  rw [Tr.rB,Tr.rR,show ((0:Int) == 0)=true from rfl,zC,Tr.rN _ (by omega),Tr.rT,zE,wE,ne]
  dsimp only
  rw [Tr.rB,Tr.rR,zC,Tr.rB,show (5:Int)=((5:Nat):Int) from rfl,hg2,zE,Tr.rT,zE]
  dsimp only
  rw [←tail,Tr.rB]
  rw [hHl,hk0,←Nat.add_assoc] at hlo
  rw [w64_id (x:=e) (by omega)]
  refine (bindT hlo).trans ?_
  rw [Tr.rT,hP,zL,hHl,hk0,←Nat.add_assoc,←Nat.add_assoc]
  rfl
end Go.Proofs.YtedcnpankkaboaaGreat.Dg
end
section
set_option maxRecDepth 10000
namespace Go.LM
open Go
def cutN (l:List Int) (o n i:Nat):List Int:=(l.drop (i*n - o)).take ((i+1)*n - o - (i*n - o))
theorem cutN_take (l:List Int) (o n i:Nat):l.take ((i+1)*n - o)=l.take (i*n - o)++cutN l o n i:=by
 unfold cutN
 have h:i*n - o<=(i+1)*n - o:=by rw [Nat.add_mul,Nat.one_mul];omega
 rw [show (i+1)*n - o=(i*n - o)+((i+1)*n - o - (i*n - o)) by omega,List.take_add]
 rw [show (i*n - o)+((i+1)*n - o - (i*n - o)) - (i*n - o)=(i+1)*n - o - (i*n - o) by omega]
theorem cutN_len (l:List Int) (o n i N:Nat) (hi:i<N) (hl:l.length=N*n - o):(cutN l o n i).length=(i+1)*n - o - (i*n - o):=by
 unfold cutN
 have h:(i+1)*n<=N*n:=Nat.mul_le_mul_right n hi
 rw [List.length_take,List.length_drop,hl];omega
theorem range_take (n i:Nat) (h:i<=n):(List.range n).take i=List.range i:=by
 rw [List.take_range,Nat.min_eq_left h]
end Go.LM
namespace Go.Proofs.YtedcnpankkaboaaGreat.Dg
open Go.LM
structure RiOK (m ro:Nat) (ps es:List Int) (block order:Nat) (l:List Int):Prop where
 hm:m=0\/m=1
 ro15:ro<=15
 b1:1<=block
 b2:block<=65535
 o32:order<=32
 dv:block / 2 ^ ro*2 ^ ro=block
 ge:order<=block / 2 ^ ro
 lp:ps.length=2 ^ ro
 le:es.length=2 ^ ro
 ll:l.length=block - order
 pt:∀ i,i<2 ^ ro->PtOK (4+m) (ps.getD i 0) (es.getD i 0) (cutN l order (block / 2 ^ ro) i)
def ptG (m:Nat) (ps es l:List Int) (order n:Nat) (i:Nat):List Bool:=ptB (4+m) (ps.getD i 0) (es.getD i 0) (cutN l order n i)
def riceB (m ro:Nat) (ps es:List Int) (n order:Nat) (l:List Int):List Bool:=bitsOf m 2++(bitsOf ro 4++(List.range (2 ^ ro)).flatMap (ptG m ps es l order n))
theorem rshape_eq (m ro block order:Nat) (ps es:List Int) (hm:m=0\/m=1) (hro:ro<=15) (hb:1<=block/\block<=65535) (ho:order<=32) (dv:block / 2 ^ ro*2 ^ ro=block) (ge:order<=block / 2 ^ ro):LQ.rshape ((m:Int),(ro:Int),ps,es,()) (block:Int) (order:Int)=some true:=by
 unfold LQ.rshape LQ.rshape.t
 dsimp only
 have d0:(w64 (bitsI BinOp.andNot IntKind.i64 (m:Int) 1) != 0)=false:=by rcases hm with rfl|rfl<;>decide +kernel
 have d1:decide ((ro:Int)<0)=false:=zF (by omega)
 have d2:decide ((ro:Int)>15)=false:=zF (by omega)
 have d3:decide ((block:Int)<1)=false:=zF (by omega)
 have d4:decide ((block:Int)>65535)=false:=zF (by omega)
 have d5:decide ((order:Int)<0)=false:=zF (by omega)
 have d6:decide ((order:Int)>32)=false:=zF (by omega)
 have e1:(block:Int) / ((2 ^ ro:Nat):Int)*((2 ^ ro:Nat):Int)=(block:Int):=by
  have:(block:Int) / ((2 ^ ro:Nat):Int)*((2 ^ ro:Nat):Int)=((block / 2 ^ ro*2 ^ ro:Nat):Int):=rfl
  rw [this,dv]
 have d7:decide ((block:Int) / ((2 ^ ro:Nat):Int)>=(order:Int))=true:=zT (by
  have:(block:Int) / ((2 ^ ro:Nat):Int)=((block / 2 ^ ro:Nat):Int):=rfl
  rw [this]
  generalize block / 2 ^ ro=q at ge
  omega)
 rw [Tr.rB]
 refine (bindT (a:=(false,(m:Int),(ro:Int),ps,es)) (by
  rw [Tr.rR,d0,zc,Tr.rR,d1,zc,Tr.rR,d2,zc,Tr.rR,d3,zc,Tr.rR,d4,zc,Tr.rR,d5,zc,Tr.rT,d6])).trans ?_
 dsimp only
 rw [Tr.rR,zc,Tr.rN _ (by omega),Tr.rB,Tr.rN _ (by omega),Tr.rR,p2_nat _ _ (by omega),e1,w64_id (by omega),beq_self_eq_true,zC,Tr.rT,zE,d7]
 rfl
theorem rDec_eq (all:List Bool) (a m ro block order:Nat) (ps es l:List Int) (ok:RiOK m ro ps es block order l) (h:Bat all a (riceB m ro ps es (block / 2 ^ ro) order l)) (hb:all.length<=281474976710656) :
  LQ.rDec ((block:Int),(order:Int)) (a:Int) (pk all)=some ((l,((m:Int),(ro:Int),ps,es,()),0),((a+(riceB m ro ps es (block / 2 ^ ro) order l).length:Nat):Int),pk all):=by
 obtain ⟨hm,ro15,b1,b2,o32,dv,ge,lp,le,ll,pt⟩:=ok
 have hob:order<=block:=Nat.le_trans ge (Nat.div_le_self _ _)
 have hsh:=rshape_eq m ro block order [] [] hm ro15 ⟨b1,b2⟩ o32 dv ge
 have hN:2 ^ ro<=2 ^ 15:=Nat.pow_le_pow_right (by decide) ro15
 have hdiv:((block:Int) / ((2 ^ ro:Nat):Int))=((block / 2 ^ ro:Nat):Int):=rfl
 have ll2:l.length=2 ^ ro*(block / 2 ^ ro) - order:=by rw [Nat.mul_comm,dv,ll]
 unfold riceB at h ⊢
 generalize hn:block / 2 ^ ro=n at *
 generalize hNN:2 ^ ro=N at *
 have hg1:=Get_eq all _ a 2 h.left (zG _ _) (by decide) hb
 rw [valB_bitsOf,Nat.mod_eq_of_lt (by rcases hm with rfl|rfl<;>decide)] at hg1
 have hr1:=h.right
 rw [zG] at hr1
 have hg2:=Get_eq all _ (a+2) 4 hr1.left (zG _ _) (by decide) hb
 rw [valB_bitsOf,Nat.mod_eq_of_lt (by omega)] at hg2
 have hr2:=hr1.right
 rw [zG] at hr2
 unfold LQ.rDec LQ.rDec.t
 have d1:decide ((block:Int)<1)=false:=zF (by omega)
 have d2:decide ((block:Int)>65535)=false:=zF (by omega)
 have d3:decide ((order:Int)<0)=false:=zF (by omega)
 have d4:decide ((order:Int)>32)=false:=zF (by omega)
 have d5:decide ((order:Int)>(block:Int))=false:=zF (by omega)
 dsimp only
 rw [Tr.rB]
 refine (bindT (a:=(false,((a:Int),pk all),(0:Int),(0:Int))) (by
  rw [Tr.rR,zc,Tr.rR,d1,zc,Tr.rR,d2,zc,Tr.rR,d3,zc,Tr.rR,d4,zc,Tr.rT,d5])).trans ?_
 dsimp only
 rw [Tr.rR,zc,Tr.rB]
 refine (bindT hg1).trans ?_
 dsimp only
 rw [Tr.rB]
 refine (bindT hg2).trans ?_
 dsimp only
 rw [Tr.rB]
 have wm:w64 (m:Int)=(m:Int):=w64_id (by omega)
 have wo:w64 (ro:Int)=(ro:Int):=w64_id (by omega)
 refine (bindT (a:=(false,(((a+2+4:Nat):Int),pk all),((0:Int),(0:Int)),(m:Int),(ro:Int))) (by
  rw [Tr.rR,bne_self_eq_false,zc,Tr.rR,zc,Tr.rB,wm,wo,hsh];rfl)).trans ?_
 dsimp only
 rw [Tr.rR,zc,Tr.rN _ (by omega),Tr.rB]
 have hlo:=loopO_steps (f:=fun (d:Int×(Int×List UInt8)×(Int×Int)×(Int×Int)×List Int×List Int×List Int)=>(LQ.rDec.l0 ((block:Int),(order:Int)) (false,(((a+2+4:Nat):Int),pk all),((0:Int),(0:Int)),(m:Int),(ro:Int)) d.1 d.2.1 d.2.2.1 d.2.2.2.1 d.2.2.2.2.1 d.2.2.2.2.2.1 d.2.2.2.2.2.2).run)
  (fun i=>((i:Int),(((a+2+4+((List.range i).flatMap (ptG m ps es l order n)).length:Nat):Int),pk all),((0:Int),(0:Int)),((m:Int),(ro:Int)),l.take (i*n - order),ps.take i,es.take i))
  (r:=.inr ((((a+2+4+((List.range N).flatMap (ptG m ps es l order n)).length:Nat):Int),pk all),((0:Int),(0:Int)),((m:Int),(ro:Int)),l,ps,es)) N (fun i hi=>by
  have hit:=Bat.item hr2 i (by rw [List.length_range];exact hi)
  rw [range_take _ _ (by omega),List.getElem_range] at hit
  have hcl:=cutN_len l order n i N hi ll2
  have hmul:(i+1)*n<=N*n:=Nat.mul_le_mul_right n hi
  have hNn:N*n=block:=by rw [Nat.mul_comm];exact dv
  have hin:i*n+n=(i+1)*n:=by rw [Nat.add_mul,Nat.one_mul]
  have hpe:=part_eq all _ (4+m) (ps.getD i 0) (es.getD i 0) (cutN l order n i) hit (pt i hi) (by rw [hcl];omega) hb
  rw [hcl] at hpe
  unfold LQ.rDec.l0
  dsimp only
  have wN:w64 ((1:Int)*p2 (ro:Int) 64)=(N:Int):=by rw [p2_nat _ _ (by omega),hNN,w64_id (by omega)];omega
  rw [wN,Tr.rR,zT (by omega),zC,Tr.rN _ (by omega),Tr.rB]
  refine (bindT (a:=((((i+1)*n - order - (i*n - order):Nat):Int),(((a+2+4+((List.range i).flatMap (ptG m ps es l order n)).length:Nat):Int),pk all),((0:Int),(0:Int)),((m:Int),(ro:Int)),l.take (i*n - order),ps.take i,es.take i)) (by
   rw [Tr.rR,p2_nat _ _ (by omega),hNN,hdiv]
   by_cases h0:i=0
   ·subst h0
    rw [show (((0:Nat):Int) == 0)=true from rfl,zC,Tr.rT,w64_id (by omega),show (n:Int) - (order:Int)=(((0+1)*n - order - (0*n - order):Nat):Int) by omega]
   ·have h1:1*n<=i*n:=Nat.mul_le_mul_right n (by omega)
    rw [show ((i:Int) == 0)=false from beq_eq_false_iff_ne.2 (by omega),zc,Tr.rT,show ((n:Nat):Int)=(((i+1)*n - order - (i*n - order):Nat):Int) by omega])).trans ?_
  dsimp only
  have w4:w64 ((4:Int)+(m:Int))=((4+m:Nat):Int):=by rw [w64_id (by omega)];omega
  rw [w4,Tr.rB]
  refine (bindT hpe).trans ?_
  dsimp only
  have lt1:(l.take (i*n - order)).length<=65535:=by rw [List.length_take];omega
  rw [Bool.not_true,Tr.rR,zc,Tr.rN _ (by rw [hcl];omega),Tr.rN _ (by simp only [List.length_take,List.length_set,List.length_replicate];omega),Tr.rN _ (by simp only [List.length_take,List.length_set,List.length_replicate];omega),Tr.rT,w64_id (x:=(i:Int)+1) (by omega),←cutN_take]
  have ep:ps.take (i+1)=ps.take i++[ps.getD i 0]:=by rw [List.take_succ_eq_append_getElem (by omega),getD_lt _ _ (by omega)]
  have ee:es.take (i+1)=es.take i++[es.getD i 0]:=by rw [List.take_succ_eq_append_getElem (by omega),getD_lt _ _ (by omega)]
  have ef:((List.range (i+1)).flatMap (ptG m ps es l order n)).length=((List.range i).flatMap (ptG m ps es l order n)).length+(ptG m ps es l order n i).length:=by
   rw [List.range_succ,List.flatMap_append,zL];simp
  rw [ep,ee,ef,←Nat.add_assoc (a+2+4)]
  rfl) (by
  unfold LQ.rDec.l0
  dsimp only
  have wN:w64 ((1:Int)*p2 (ro:Int) 64)=(N:Int):=by rw [p2_nat _ _ (by omega),hNN,w64_id (by omega)];omega
  rw [wN,Tr.rR,zF (by omega),zc,Tr.rT,←ll2,List.take_of_length_le (Nat.le_refl _),List.take_of_length_le (by omega),List.take_of_length_le (by omega)])
 rw [Nat.zero_mul,Nat.zero_sub] at hlo
 simp only [List.range_zero,List.flatMap_nil,List.length_nil,Nat.add_zero,List.take_zero] at hlo
 refine (bindT hlo).trans ?_
 rw [Tr.run_csr,Tr.rT]
 dsimp only
 rw [zL,zL,zG,zG,←Nat.add_assoc,←Nat.add_assoc]
end Go.Proofs.YtedcnpankkaboaaGreat.Dg
end
namespace Go.Proofs.YtedcnpankkaboaaGreat.Dg
section
set_option maxRecDepth 10000
open Go.LM
theorem mask32 (n:Nat) (hn:n<4294967296):IntKind.u64.wrap (bitsI BinOp.and IntKind.u64 (n:Int) (4294967295:Int))=(n:Int):=by
 have h2:(BitVec.ofInt 64 (4294967295:Int))=BitVec.ofNat 64 (2 ^ 32 - 1):=by decide
 have key:(BitVec.ofNat 64 n &&& BitVec.ofNat 64 (2 ^ 32 - 1)).toNat=n:=by
  rw [BitVec.toNat_and,BitVec.toNat_ofNat,BitVec.toNat_ofNat,Nat.mod_eq_of_lt (by omega),Nat.mod_eq_of_lt (by decide),Nat.and_two_pow_sub_one_eq_mod,Nat.mod_eq_of_lt (by omega)]
 rw [←ofInt_nat,←h2] at key
 have:bitsI BinOp.and IntKind.u64 (n:Int) (4294967295:Int)=(n:Int):=congrArg (fun x:Nat=>(x:Int)) key
 rw [this,u64_id (by omega)]
theorem bMul1 (c:Nat) (hc:c<=65535):LQ.bMul 1 (c:Int)=some (0,(c:Int)):=by
 have m1:=mask32 1 (by decide)
 have mc:=mask32 c (by omega)
 have m0:=mask32 0 (by decide)
 have a1:(1:Int) / 4294967296=0:=by decide
 have a2:(c:Int) / 4294967296=0:=by omega
 have wc:IntKind.u64.wrap (c:Int)=(c:Int):=u64_id (by omega)
 have w0:IntKind.u64.wrap (0:Int)=0:=u64_id (by omega)
 unfold LQ.bMul LQ.bMul.t LQ.Mul64 LQ.Mul64.t
 rw [Tr.rT,Tr.rB,zE,Tr.rT]
 have m1':IntKind.u64.wrap (bitsI BinOp.and IntKind.u64 (1:Int) (4294967295:Int))=1:=m1
 have m0':IntKind.u64.wrap (bitsI BinOp.and IntKind.u64 (0:Int) (4294967295:Int))=0:=m0
 simp only [a1,a2,mc,m1',Int.zero_mul,Int.one_mul,Int.mul_zero,wc,w0,Int.zero_add,Int.add_zero,m0',Int.zero_ediv]
theorem RepI_eq (x:Int) (c:Nat) (h1:1<=c) (hc:c<=65535):LQ.RepI [x] (c:Int)=some (List.replicate c x):=by
 have hloop:∀ d n,c - n=d->1<=n->n<=c->loopO (fun (d:Int×List Int)=>(LQ.RepI.l0 d.1 d.2).run) ((n:Int),List.replicate n x++List.replicate (c - n) 0)=some (List.replicate c x):=by
  intro d
  induction d using Nat.strongRecOn with
  |ind d ih=>
   intro n hd hn hnc
   have hlen:(List.replicate n x++List.replicate (c - n) (0:Int)).length=c:=by simp;omega
   by_cases he:n=c
   ·subst he
    refine loopO_done ?_
    unfold LQ.RepI.l0
    dsimp only
    rw [Tr.rR,zF (by rw [hlen];simp only [zN];omega),zc,Tr.rT,Nat.sub_self,List.replicate_zero,List.append_nil]
   ·have htk:(List.replicate n x++List.replicate (c - n) (0:Int)).take n=List.replicate n x:=List.take_left' (by simp)
    have hdr:(List.replicate n x++List.replicate (c - n) (0:Int)).drop (n+min n (c - n))=List.replicate (c - (n+min n (c - n))) 0:=by
     rw [List.drop_append,List.drop_of_length_le (by simp),List.nil_append,List.length_replicate,List.drop_replicate]
     congr 1;omega
    rw [loopO_next (d':=(((n+min n (c - n):Nat):Int),List.replicate (n+min n (c - n)) x++List.replicate (c - (n+min n (c - n))) 0)) ?_]
    ·exact ih (c - (n+min n (c - n))) (by omega) _ rfl (by omega) (by omega)
    ·unfold LQ.RepI.l0
     dsimp only
     rw [Tr.rR,hlen,zT (by simp only [zN];omega),zC,Tr.rN _ (by simp only [zN];omega),Tr.rN _ (by simp only [zN];omega),Tr.rT]
     have e1:((n:Int) - 0).toNat=n:=by omega
     have e2:(Int.ofNat c - (n:Int)).toNat=c - n:=by simp only [zN];omega
     rw [e1,e2,List.drop_zero,Int.toNat_natCast,htk,List.length_replicate,hdr,List.take_replicate]
     have e3:w64 ((n:Int)+Int.ofNat (min n (c - n)))=((n+min n (c - n):Nat):Int):=by
      simp only [zN]
      rw [w64_id (by omega)];omega
     rw [e3,←List.append_assoc,List.replicate_append_replicate,Nat.min_comm (c - n) n]
 unfold LQ.RepI LQ.RepI.t
 have wx:IntKind.u64.wrap (Int.ofNat [x].length)=1:=(show IntKind.u64.wrap (1:Int)=1 from u64_id (by decide))
 have wc:IntKind.u64.wrap (c:Int)=(c:Int):=u64_id (by omega)
 rw [Tr.rR,zF (by omega),zc,Tr.rB,wx,wc,bMul1 c hc,zE,Tr.rB]
 dsimp only
 rw [Tr.rR,show decide ((0:Int)>0)=false from rfl,zc,Tr.rT,zE,zF (by omega),Tr.rR,zc,w64_id (x:=(c:Int)) (by omega),Tr.rN _ (by omega),Tr.rB]
 have h:=hloop (c - 1) 1 rfl (by decide) h1
 refine (bindT (a:=List.replicate c x) ?_).trans rfl
 refine Eq.trans (congrArg _ ?_) h
 rw [Int.toNat_natCast,List.length_replicate]
 have e1:(Int.ofNat c - 0).toNat=c:=by simp
 rw [e1,List.take_zero,List.nil_append]
 have e2:min [x].length c=1:=by simp;omega
 rw [e2,Nat.zero_add,List.drop_replicate,List.take_of_length_le (by simp;omega)]
 rfl
theorem ConG_eq (s:List Int) (W k o pr sf m ro:Int) (wst w:Nat) (cs ps es:List Int) (hw:W=((wst+w:Nat):Int)) (h1:1<=w) (h2:w<=33) (hwst:wst<=33) (hf:∀ n∈s,fitsW w n) (hl:s.length<=1048576) :
  LQ.ConG s W k o (wst:Int) pr sf cs m ro ps es=some (false,W,k,o,(wst:Int),pr,sf,cs,m,ro,ps,es):=by
 have hdec:∀ n,fitsW w n->LQ.dec1 n W k o (wst:Int) pr sf cs m ro ps es=some (false,W,k,o,(wst:Int),pr,sf,cs,m,ro,ps,es):=fun n hn=>by
  have hww:w64 (W - (wst:Int))=(w:Int):=by rw [hw,w64_id (by omega)];omega
  unfold LQ.dec1 LQ.dec1.t
  rw [Tr.rB,hww,sfits_eq n w h1 (by omega) hn];rfl
 have hlo:=loopO_steps (f:=fun (d:Int×Int×Int×Int×Int×Int×Int×List Int×Int×Int×List Int×List Int)=>(LQ.IdxG.l0 s d.1 d.2.1 d.2.2.1 d.2.2.2.1 d.2.2.2.2.1 d.2.2.2.2.2.1 d.2.2.2.2.2.2.1 d.2.2.2.2.2.2.2.1 d.2.2.2.2.2.2.2.2.1 d.2.2.2.2.2.2.2.2.2.1 d.2.2.2.2.2.2.2.2.2.2.1 d.2.2.2.2.2.2.2.2.2.2.2).run)
  (fun i=>((i:Int),W,k,o,(wst:Int),pr,sf,cs,m,ro,ps,es)) (r:=.inr (W,k,o,(wst:Int),pr,sf,cs,m,ro,ps,es)) s.length (fun i hi=>by
   have hd:=hdec (s.getD i 0) (hf _ (by rw [getD_lt _ _ hi];exact List.getElem_mem hi))
   unfold LQ.IdxG.l0
   dsimp only
   rw [Tr.rR,zT (by simp only [zN];omega),zC,Tr.rN _ (by simp only [zN];omega),Tr.rB,Int.toNat_natCast,hd,zE,Tr.rR,zc,Tr.rT,w64_id (by omega)]
   rfl) (by
   unfold LQ.IdxG.l0
   dsimp only
   rw [Tr.rR,zF (by simp only [zN];omega),zc,Tr.rT])
 unfold LQ.ConG LQ.ConG.t LQ.IdxG LQ.IdxG.t
 rw [Tr.rB,Tr.rB]
 refine (congrArg (fun x=>Option.bind x _) (bindT hlo)).trans ?_
 rfl
theorem rInts_self (l:List Int) (hl:l.length<=1048576):LQ.rInts l l=some true:=by
 have hlo:=loopO_steps (f:=fun (d:Int)=>(LQ.rInts.l0 l l d).run) (fun i=>(i:Int)) (r:=.inr ()) l.length (fun i hi=>by
   unfold LQ.rInts.l0
   rw [Tr.rR,zT (by simp only [zN];omega),zC,Tr.rN _ (by simp only [zN];omega),Tr.rN _ (by simp only [zN];omega),bne_self_eq_false,Tr.rR,zc,Tr.rT,w64_id (by omega)]
   rfl) (by
   unfold LQ.rInts.l0
   rw [Tr.rR,zF (by simp only [zN];omega),zc,Tr.rT])
 unfold LQ.rInts LQ.rInts.t
 rw [bne_self_eq_false,Tr.rR,zc,Tr.rB]
 refine (bindT hlo).trans ?_
 rfl
theorem coefs_eq (all:List Bool) (a k o wst pr sf:Nat) (m ro:Int) (cs ps es:List Int) (x y:Int) (z:List Int) (h:Bat all a (bitsOf (pr - 1) 4++(bitsOf sf 5++sgBits pr cs))) (hp1:1<=pr) (hp2:pr<=15) (hs:sf<=15) (hc:∀ c∈cs,fitsW pr c) (ho:cs.length=o) (ho2:o<=32) (hb:all.length<=281474976710656) :
  LQ.coefs ((a:Int),pk all) (k:Int) (o:Int) (wst:Int) x y z m ro ps es=some (true,(((a+9+o*pr:Nat):Int),pk all),(k:Int),(o:Int),(wst:Int),(pr:Int),(sf:Int),cs,m,ro,ps,es):=by
 have hg1:=Get_eq all _ a 4 h.left (zG _ _) (by decide) hb
 rw [valB_bitsOf,Nat.mod_eq_of_lt (by omega)] at hg1
 have hr:=h.right
 rw [zG] at hr
 have hg2:=Get_eq all _ (a+4) 5 hr.left (zG _ _) (by decide) hb
 rw [valB_bitsOf,Nat.mod_eq_of_lt (by omega)] at hg2
 have hr2:=hr.right
 rw [zG] at hr2
 have hn:=numbers_eq all (a+4+5) pr cs hr2 hp1 (by omega) hc (by omega) hb
 rw [ho] at hn
 have w1:w64 (w64 ((pr - 1:Nat):Int)+1)=(pr:Int):=by rw [w64_id (x:=((pr - 1:Nat):Int)) (by omega),w64_id (by omega)];omega
 have w2:w64 (sf:Int)=(sf:Int):=w64_id (by omega)
 unfold LQ.coefs LQ.coefs.t
 dsimp only
 rw [Tr.rB]
 refine (bindT hg1).trans ?_
 dsimp only
 rw [Tr.rB]
 refine (bindT hg2).trans ?_
 dsimp only
 rw [Tr.rB]
 refine (bindT (a:=(false,(((a+4+5:Nat):Int),pk all),(k:Int),(o:Int),(wst:Int),x,y,z,m,ro,ps,es)) (by
  rw [Tr.rR,show ((0:Int) != 0)=false from rfl,zc,Tr.rR,zc,Tr.rR,show (((pr - 1:Nat):Int) == 15)=false from beq_eq_false_iff_ne.2 (by omega),zc,Tr.rT,zF (by omega)])).trans ?_
 dsimp only
 rw [Tr.rR,zc,Tr.rB,w1,w2]
 refine (bindT hn).trans ?_
 rfl
end
end Go.Proofs.YtedcnpankkaboaaGreat.Dg
