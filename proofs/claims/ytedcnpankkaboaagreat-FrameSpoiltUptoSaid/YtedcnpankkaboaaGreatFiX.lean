/- FiX: FiA FiB FiC FiD FiE FiF FiG FiH. -/
import Derived.Test.YtedcnpankkaboaaGreatFgA
import Derived.Test.YtedcnpankkaboaaGreatFgB
set_option linter.unusedSimpArgs false
set_option linter.unusedVariables false
namespace Go.Proofs.YtedcnpankkaboaaGreat.Dg
section
set_option maxRecDepth 100000
open Go.LM
theorem loopO_pq {D R:Type} {f:D->Option (D⊕R)} (P:Nat->D->Prop) (Q:R->Prop) (N:Nat) (hs:∀ k,k<N->∀ d,P k d->(∃ d',f d=some (.inl d')/\P (k+1) d')\/∃ r,f d=some (.inr r)/\Q r) (hf:∀ d,P N d->∃ r,f d=some (.inr r)/\Q r):∀ d,P 0 d->∃ r,loopO f d=some r/\Q r:=by
 have go:∀ j k d,k+j=N->P k d->∃ r,loopO f d=some r/\Q r:=by
  intro j
  induction j with
  |zero=>
   intro k d hk hp
   have:k=N:=by omega
   subst this
   obtain ⟨r,h1,h2⟩:=hf d hp
   exact ⟨r,loopO_done h1,h2⟩
  |succ j ih=>
   intro k d hk hp
   rcases hs k (by omega) d hp with ⟨d',h1,h2⟩|⟨r,h1,h2⟩
   ·obtain ⟨r,h3,h4⟩:=ih (k+1) d' (by omega) h2
    exact ⟨r,(loopO_next h1).trans h3,h4⟩
   ·exact ⟨r,loopO_done h1,h2⟩
 exact fun d hp=>go N 0 d (by omega) hp
theorem Bat.seg {all:List Bool} {a n:Nat} (h:a+n<=all.length):∃ mid,mid.length=n/\Bat all a mid:=by
 refine ⟨(all.drop a).take n,by rw [List.length_take,List.length_drop];omega,all.take a,all.drop (a+n),?_,by rw [List.length_take];omega⟩
 rw [←List.drop_drop,List.take_append_drop,List.take_append_drop]
theorem Bat.join {all:List Bool} {a:Nat} {x y:List Bool} (h1:Bat all a x) (h2:Bat all (a+x.length) y):Bat all a (x++y):=by
 obtain ⟨p1,q1,e1,l1⟩:=h1
 obtain ⟨p2,q2,e2,l2⟩:=h2
 refine ⟨p1,q2,?_,l1⟩
 have h3:(p1++x)++q1=p2++(y++q2):=by rw [List.append_assoc,←e1,e2]
 have h4:=List.append_inj h3 (by rw [zL];omega)
 rw [e1,h4.2];simp only [List.append_assoc]
theorem Bat.nil {all:List Bool} {a:Nat} (h:a<=all.length):Bat all a []:=⟨all.take a,all.drop a,by simp,by rw [List.length_take];omega⟩
theorem bitsOf_valB (l:List Bool):bitsOf (valB l) l.length=l:=by
 have go:∀ n (l:List Bool),l.length=n->bitsOf (valB l) l.length=l:=by
  intro n
  induction n with
  |zero=>
   intro l hl
   rw [List.length_eq_zero_iff.1 hl];rfl
  |succ n ih=>
   intro l hl
   rcases List.eq_nil_or_concat l with rfl|⟨L,b,rfl⟩
   ·simp at hl
   ·have hL:L.length=n:=by simpa using hl
    rw [List.concat_eq_append,zL,List.length_singleton,bitsOf_snoc,valB_snoc]
    have h1:(2*valB L+b.toNat) / 2=valB L:=by have:=toNat_lt2 b;omega
    have h2:((2*valB L+b.toNat) % 2 == 1)=b:=by cases b<;>simp
    rw [h1,h2,ih L hL]
 exact go l.length l rfl
theorem bitsOf_mod (x W:Nat):bitsOf (x % 2 ^ W) W=bitsOf x W:=by
 unfold bitsOf
 apply List.map_congr_left
 intro k hk
 rw [List.mem_range] at hk
 congr 1
 have e:2 ^ W=2 ^ (W - 1 - k)*(2*2 ^ k):=by
  rw [show 2*2 ^ k=2 ^ (k+1) by rw [Nat.pow_succ,Nat.mul_comm],←Nat.pow_add];congr 1;omega
 rw [e,Nat.mod_mul_right_div_self,Nat.mod_mul_right_mod]
theorem signed_of (mid:List Bool) (W:Nat) (hl:mid.length=W) (h1:1<=W) (h2:W<=63):∃ n:Int,fitsW W n/\bitsOf (two64 n) W=mid:=by
 have hv:=valB_lt mid
 rw [hl] at hv
 have hp:2 ^ W=2*2 ^ (W - 1):=by rw [←Nat.pow_succ'];congr 1;omega
 have h64:∃ c,18446744073709551616=2 ^ W*c:=⟨2 ^ (64 - W),by rw [←Nat.pow_add,show W+(64 - W)=64 by omega]⟩
 have hpl:2 ^ W<=2 ^ 63:=Nat.pow_le_pow_right (by decide) h2
 have e63:(2:Nat) ^ 63=9223372036854775808:=by decide
 rw [e63] at hpl
 have hb:bitsOf (valB mid) W=mid:=by rw [←hl];exact bitsOf_valB mid
 by_cases h:valB mid<2 ^ (W - 1)
 ·refine ⟨(valB mid:Int),?_,?_⟩
  ·unfold fitsW
   generalize 2 ^ (W - 1)=q at *
   omega
  ·have:two64 (valB mid:Int)=valB mid:=by unfold two64;omega
   rw [this,hb]
 ·refine ⟨(valB mid:Int) - ((2 ^ W:Nat):Int),?_,?_⟩
  ·unfold fitsW
   generalize 2 ^ (W - 1)=q at *
   rw [hp]
   omega
  ·obtain ⟨c,hc⟩:=h64
   have hc1:1<=c:=by
    rcases Nat.eq_zero_or_pos c with h0|h0
    ·rw [h0] at hc;omega
    ·exact h0
   have e:two64 ((valB mid:Int) - ((2 ^ W:Nat):Int))=valB mid+2 ^ W*(c - 1):=by
    unfold two64
    have:2 ^ W*(c - 1)+2 ^ W=18446744073709551616:=by
     rw [hc,←Nat.mul_succ];congr 1;omega
    generalize 2 ^ W*(c - 1)=z at *
    generalize 2 ^ W=q at *
    omega
   rw [e,←bitsOf_mod,Nat.add_mul_mod_self_left,Nat.mod_eq_of_lt hv,hb]
theorem Get_no (all:List Bool) (a W:Nat) (h8:all.length % 8=0) (ha:a<=all.length) (hW:W<=64) (hb:all.length<=281474976710656) (h:¬ a+W<=all.length):LQ.Get (W:Int) (a:Int) (pk all)=some ((0,10),(a:Int),pk all):=by
 have hL:=Left_eq all a ha hb
 have e8:8*((all.length+7) / 8)=all.length:=by omega
 rw [e8] at hL
 unfold LQ.Get LQ.Get.t
 have d1:decide ((W:Int)<0)=false:=zF (by omega)
 have d2:decide ((W:Int)>64)=false:=zF (by omega)
 rw [Tr.rR,zc,Tr.rB,Tr.rR,d1,zc,Tr.rT,zE,d2]
 dsimp only
 rw [Tr.rR,zc,Tr.rB]
 refine (bindT hL).trans ?_
 rw [Tr.rN _ ⟨rfl,rfl,trivial⟩,Tr.rR]
 dsimp only
 rw [zT (by omega)];rfl
theorem Get_dec (all:List Bool) (a W:Nat) (h8:all.length % 8=0) (ha:a<=all.length) (hW:W<=64) (hb:all.length<=281474976710656) :
  (∃ mid,mid.length=W/\Bat all a mid/\LQ.Get (W:Int) (a:Int) (pk all)=some ((((valB mid:Nat):Int),0),((a+W:Nat):Int),pk all))\/(¬ a+W<=all.length/\LQ.Get (W:Int) (a:Int) (pk all)=some ((0,10),(a:Int),pk all)):=by
 by_cases h:a+W<=all.length
 ·obtain ⟨mid,h1,h2⟩:=Bat.seg h
  exact .inl ⟨mid,h1,h2,Get_eq all mid a W h2 h1 hW hb⟩
 ·exact .inr ⟨h,Get_no all a W h8 ha hW hb h⟩
theorem SignedR_dec (all:List Bool) (a W:Nat) (h8:all.length % 8=0) (ha:a<=all.length) (h1:1<=W) (h2:W<=63) (hb:all.length<=281474976710656) :
  (∃ n,fitsW W n/\Bat all a (bitsOf (two64 n) W)/\LQ.SignedR (W:Int) (a:Int) (pk all)=some ((n,0),((a+W:Nat):Int),pk all))\/LQ.SignedR (W:Int) (a:Int) (pk all)=some ((0,10),(a:Int),pk all):=by
 by_cases h:a+W<=all.length
 ·obtain ⟨mid,e1,e2⟩:=Bat.seg h
  obtain ⟨n,n1,n2⟩:=signed_of mid W e1 h1 h2
  rw [←n2] at e2
  exact .inl ⟨n,n1,e2,SignedR_eq all a W n e2 h1 h2 n1 hb⟩
 ·right
  have hg:=Get_no all a W h8 ha (by omega) hb h
  unfold LQ.SignedR LQ.SignedR.t
  rw [Tr.rB,Tr.rR,zC,Tr.rT,zE,zF (show ¬ (W:Int)<1 by omega)]
  dsimp only
  rw [Tr.rR,zc,Tr.rB]
  refine (bindT hg).trans ?_
  rfl
theorem zz_of (m:Nat) (h:m<18446744073709551616):∃ n,inR n/\zz n=m:=by
 rcases Nat.mod_two_eq_zero_or_one m with e|e
 ·refine ⟨((m / 2:Nat):Int),by unfold inR;omega,?_⟩
  unfold zz
  rw [if_neg (by omega)];omega
 ·refine ⟨-(((m / 2:Nat):Int)) - 1,by unfold inR;omega,?_⟩
  unfold zz
  rw [if_pos (by omega)];omega
theorem UnaryR_dec (all:List Bool) (a:Nat) (h8:all.length % 8=0) (ha:a<=all.length) (hb:all.length<=281474976710656) :
  (∃ n,n<=16777216/\Bat all a (unaB n)/\LQ.UnaryR (a:Int) (pk all)=some (((n:Int),0),((a+(n+1):Nat):Int),pk all))\/∃ v e,e≠0/\LQ.UnaryR (a:Int) (pk all)=some ((v,e),(a:Int),pk all):=by
 have hL:=Left_eq all a ha hb
 have e8:8*((all.length+7) / 8)=all.length:=by omega
 rw [e8] at hL
 have hat:LQ.atR (a:Int) (pk all)=some ((a:Int),(a:Int),pk all):=rfl
 by_cases hx:∃ n,n<=16777216/\Bat all a (unaB n)
 ·obtain ⟨n,h1,h2⟩:=hx
  exact .inl ⟨n,h1,h2,UnaryR_eq all a n h2 h1 hb⟩
 right
 have hz:∀ n,n<=16777217->a+n<=all.length->Bat all a (List.replicate n false):=by
  intro n
  induction n with
  |zero=>intro _ h;exact Bat.nil (by omega)
  |succ n ih=>
   intro h1 h2
   have hb1:=ih (by omega) (by omega)
   obtain ⟨mid,m1,m2⟩:=Bat.seg (all:=all) (a:=a+n) (n:=1) (by omega)
   match mid,m1 with
   | [b],_=>
    cases b with
    |true=>
     exact absurd ⟨n,by omega,Bat.join hb1 (by rw [List.length_replicate];exact m2)⟩ hx
    |false=>
     rw [List.replicate_succ']
     exact Bat.join hb1 (by rw [List.length_replicate];exact m2)
 have hbit:∀ n,n<=16777216->a+n<all.length->all.getD (a+n) false=false:=by
  intro n h1 h2
  have:=(hz (n+1) (by omega) (by omega)).getD n (by rw [List.length_replicate];omega)
  rw [this,List.getD_eq_getElem?_getD,List.getElem?_replicate]
  split<;>rfl
 have hlo:=loopO_pq (f:=(fun (d:Int×Int×List UInt8)=>(LQ.UnaryR.l0 (((all.length - a:Nat):Int),(a:Int),pk all) d.1 d.2.1 d.2.2).run)) (fun k d=>k<=all.length - a/\k<=16777216/\d=((k:Int),(a:Int),pk all)) (fun r=>r=.inl (0,11,(a:Int),pk all)\/r=.inr (((all.length - a:Nat):Int),(a:Int),pk all)) (16777217) (fun k hk d hd=>by
   obtain ⟨k1,k2,rfl⟩:=hd
   show _\/∃ r,(LQ.UnaryR.l0 (((all.length - a:Nat):Int),(a:Int),pk all) (k:Int) (a:Int) (pk all)).run=_/\_
   by_cases hend:k=all.length - a
   ·right
    refine ⟨.inr (((all.length - a:Nat):Int),(a:Int),pk all),?_,.inr rfl⟩
    unfold LQ.UnaryR.l0
    dsimp only
    rw [Tr.rB,Tr.rR,zF (by omega),zc,Tr.rT,zE]
    dsimp only
    rw [Tr.rR,zc,Tr.rT,hend]
   ·have hpk:=peek_eq all (a+k) (by omega) hb (a:Int)
    have hb0:=hbit k k2 (by omega)
    rw [hb0] at hpk
    have hw:w64 ((a:Int)+(k:Int))=((a+k:Nat):Int):=by rw [w64_id (by omega)];omega
    have hw1:w64 ((k:Int)+1)=((k+1:Nat):Int):=by rw [w64_id (by omega)];omega
    have hrun:(LQ.UnaryR.l0 (((all.length - a:Nat):Int),(a:Int),pk all) (k:Int) (a:Int) (pk all)).run=bif decide (((k+1:Nat):Int)>16777216) then some (.inr (.inl (0,11,(a:Int),pk all))) else some (.inl (((k+1:Nat):Int),(a:Int),pk all)):=by
     unfold LQ.UnaryR.l0
     dsimp only
     rw [Tr.rB,Tr.rR,zT (show (k:Int)<((all.length - a:Nat):Int) by omega),zC,Tr.rB,hat,zE,Tr.rN _ ⟨rfl,rfl,trivial⟩,Tr.rB]
     dsimp only
     rw [hw,hpk,zE,Tr.rN _ ⟨rfl,rfl,trivial⟩,Tr.rT,zE,Tr.rR]
     rw [show ((((false:Bool).toNat:Nat):Int) == 0)=true from rfl,zC,Tr.rR,hw1]
     rfl
    by_cases h16:k+1>16777216
    ·right
     exact ⟨_,by rw [hrun,zT (by omega)];rfl,.inl rfl⟩
    ·left
     refine ⟨_,?_,by omega,by omega,rfl⟩
     have:=hrun
     rw [zF (by omega)] at this
     exact this) (fun d hd=>by obtain ⟨_,h,_⟩:=hd;omega) ((0:Int),(a:Int),pk all) ⟨by omega,by omega,rfl⟩
 obtain ⟨r,hr1,hr2⟩:=hlo
 rcases hr2 with rfl|rfl
 ·refine ⟨0,11,by decide,?_⟩
  unfold LQ.UnaryR LQ.UnaryR.t
  rw [Tr.rR,zc,Tr.rB,hL,zE,Tr.rN _ ⟨rfl,rfl,trivial⟩,Tr.rB]
  refine (bindT hr1).trans ?_
  rfl
 ·refine ⟨0,10,by decide,?_⟩
  unfold LQ.UnaryR LQ.UnaryR.t
  rw [Tr.rR,zc,Tr.rB,hL,zE,Tr.rN _ ⟨rfl,rfl,trivial⟩,Tr.rB]
  refine (bindT hr1).trans ?_
  rw [Tr.run_csr,Tr.rR]
  dsimp only
  rw [show (((all.length - a:Nat):Int) == ((all.length - a:Nat):Int))=true from beq_self_eq_true _];rfl
end
section
set_option maxRecDepth 100000
open Go.LM
theorem RiceR_dec (all:List Bool) (a k:Nat) (h8:all.length % 8=0) (ha:a<=all.length) (hk:k<=30) (hb:all.length<=281474976710656) :
  (∃ n,inR n/\zz n / 2 ^ k<=16777216/\Bat all a (riB n k)/\LQ.RiceR (k:Int) (a:Int) (pk all)=some ((n,0),((a+(riB n k).length:Nat):Int),pk all))\/∃ v e X,e≠0/\LQ.RiceR (k:Int) (a:Int) (pk all)=some ((v,e),X):=by
 have d1:decide ((k:Int)<0)=false:=zF (by omega)
 have d2:decide ((k:Int)>30)=false:=zF (by omega)
 rcases UnaryR_dec all a h8 ha hb with ⟨n,n1,n2,n3⟩|⟨v,e,e0,e1⟩
 ·have hle:=n2.le
  rw [unaB_len] at hle
  rcases Get_dec all (a+(n+1)) k h8 hle (by omega) hb with ⟨mid,m1,m2,m3⟩|⟨_,m3⟩
  ·left
   have hv:=valB_lt mid
   rw [m1] at hv
   have hpk:2 ^ k<=2 ^ 30:=Nat.pow_le_pow_right (by decide) hk
   have e30:(2:Nat) ^ 30=1073741824:=by decide
   rw [e30] at hpk
   have hmul:2 ^ k*n<=1073741824*16777216:=Nat.mul_le_mul hpk n1
   obtain ⟨x,x1,x2⟩:=zz_of (2 ^ k*n+valB mid) (by omega)
   have hq:zz x / 2 ^ k=n:=by
    rw [x2,Nat.mul_add_div (Nat.two_pow_pos _),Nat.div_eq_of_lt hv,Nat.add_zero]
   have hlow:bitsOf (zz x) k=mid:=by
    rw [x2,←bitsOf_mod,Nat.mul_add_mod,Nat.mod_eq_of_lt hv,←m1];exact bitsOf_valB mid
   have hbat:Bat all a (riB x k):=by
    unfold riB
    rw [hq,hlow]
    exact Bat.join n2 (by rw [unaB_len];exact m2)
   exact ⟨x,x1,by omega,hbat,RiceR_eq all a k x hbat x1 hk (by omega) hb⟩
  ·right
   refine ⟨0,10,((a:Int),pk all),by decide,?_⟩
   unfold LQ.RiceR LQ.RiceR.t
   rw [Tr.rR,zc,Tr.rB,Tr.rR,d1,zc,Tr.rT,zE,d2]
   dsimp only
   rw [Tr.rR,zc,Tr.rB]
   refine (bindT n3).trans ?_
   rw [Tr.rR,show ((0:Int) != 0)=false from rfl,zc,Tr.rB]
   refine (bindT m3).trans ?_
   rfl
 ·right
  refine ⟨0,e,((a:Int),pk all),e0,?_⟩
  unfold LQ.RiceR LQ.RiceR.t
  rw [Tr.rR,zc,Tr.rB,Tr.rR,d1,zc,Tr.rT,zE,d2]
  dsimp only
  rw [Tr.rR,zc,Tr.rB]
  refine (bindT e1).trans ?_
  rw [Tr.rR,show (e != 0)=true from by rw [bne_iff_ne];exact e0];rfl
theorem sgBits_snoc (W:Nat) (l:List Int) (n:Int):sgBits W (l++[n])=sgBits W l++bitsOf (two64 n) W:=by
 unfold sgBits
 rw [List.flatMap_append]
 simp [two64]
theorem numbers_dec (all:List Bool) (a L W:Nat) (h8:all.length % 8=0) (ha:a<=all.length) (h1:1<=W) (h2:W<=63) (hL:L<=65535) (hb:all.length<=281474976710656) :
  (∃ l,l.length=L/\(∀ n∈l,fitsW W n)/\Bat all a (sgBits W l)/\LQ.numbers ((L:Int),(W:Int)) (a:Int) (pk all)=some ((l,true),((a+L*W:Nat):Int),pk all))\/∃ X,LQ.numbers ((L:Int),(W:Int)) (a:Int) (pk all)=some (([],false),X):=by
 have hlo:=loopO_pq (f:=(fun (d:Int×(Int×List UInt8)×List Int)=>(LQ.numbers.l0 ((L:Int),(W:Int)) d.1 d.2.1 d.2.2).run))
  (fun i d=>∃ l:List Int,l.length=i/\(∀ n∈l,fitsW W n)/\Bat all a (sgBits W l)/\d=((i:Int),(((a+i*W:Nat):Int),pk all),l))
  (fun r=>(∃ l:List Int,l.length=L/\(∀ n∈l,fitsW W n)/\Bat all a (sgBits W l)/\r=.inr ((((a+L*W:Nat):Int),pk all),l))\/∃ x,r=.inl (false,x,pk all)) L (fun i hi d hd=>by
   obtain ⟨l,l1,l2,l3,rfl⟩:=hd
   have hle:=l3.le
   rw [sgBits_len,l1] at hle
   have hi1:w64 ((i:Int)+1)=((i+1:Nat):Int):=by rw [w64_id (by omega)];omega
   have hdc:decide ((i:Int)<(L:Int))=true:=zT (by omega)
   show (∃ d',(LQ.numbers.l0 ((L:Int),(W:Int)) (i:Int) (((a+i*W:Nat):Int),pk all) l).run=some (.inl d')/\_)\/∃ r,(LQ.numbers.l0 ((L:Int),(W:Int)) (i:Int) (((a+i*W:Nat):Int),pk all) l).run=some (.inr r)/\_
   rcases SignedR_dec all (a+i*W) W h8 hle h1 h2 hb with ⟨n,n1,n2,n3⟩|n3
   ·left
    refine ⟨(((i+1:Nat):Int),(((a+(i+1)*W:Nat):Int),pk all),l++[n]),?_,l++[n],by simp [l1],?_,?_,rfl⟩
    ·unfold LQ.numbers.l0
     rw [Tr.rR,hdc,zC,Tr.rB]
     refine (bindT n3).trans ?_
     rw [Tr.rR,show ((0:Int) != 0)=false from rfl,zc,Tr.rN _ (by show (l.length+1)*8<=_;omega),Tr.rT,hi1]
     have e:a+i*W+W=a+(i+1)*W:=by rw [Nat.add_mul];omega
     rw [←e];rfl
    ·intro x hx
     rcases List.mem_append.1 hx with h|h
     ·exact l2 x h
     ·rw [List.mem_singleton.1 h];exact n1
    ·rw [sgBits_snoc]
     exact Bat.join l3 (by rw [sgBits_len,l1];exact n2)
   ·right
    refine ⟨.inl (false,((a+i*W:Nat):Int),pk all),?_,.inr ⟨_,rfl⟩⟩
    unfold LQ.numbers.l0
    rw [Tr.rR,hdc,zC,Tr.rB]
    refine (bindT n3).trans ?_
    rfl) (fun d hd=>by
   obtain ⟨l,l1,l2,l3,rfl⟩:=hd
   refine ⟨.inr ((((a+L*W:Nat):Int),pk all),l),?_,.inl ⟨l,l1,l2,l3,rfl⟩⟩
   show (LQ.numbers.l0 ((L:Int),(W:Int)) (L:Int) (((a+L*W:Nat):Int),pk all) l).run=_
   unfold LQ.numbers.l0
   rw [Tr.rR,zF (show ¬ (L:Int)<(L:Int) by omega)];rfl) ((0:Int),((a:Int),pk all),[]) ⟨[],rfl,(fun n h=>by cases h),Bat.nil ha,by rw [Nat.zero_mul,Nat.add_zero];rfl⟩
 obtain ⟨r,r1,r2⟩:=hlo
 rcases r2 with ⟨l,l1,l2,l3,rfl⟩|⟨x,rfl⟩
 ·left
  refine ⟨l,l1,l2,l3,?_⟩
  unfold LQ.numbers LQ.numbers.t
  rw [Tr.rB]
  refine (bindT r1).trans ?_
  rfl
 ·right
  refine ⟨(x,pk all),?_⟩
  unfold LQ.numbers LQ.numbers.t
  rw [Tr.rB]
  refine (bindT r1).trans ?_
  rfl
theorem coefs_dec (all:List Bool) (a o:Nat) (k wst m ro x y:Int) (z ps es:List Int) (h8:all.length % 8=0) (ha:a<=all.length) (ho:o<=32) (hb:all.length<=281474976710656) :
  (∃ (pr sf:Nat) (cs:List Int),1<=pr/\pr<=15/\sf<=15/\cs.length=o/\(∀ c∈cs,fitsW pr c)/\Bat all a (bitsOf (pr - 1) 4++(bitsOf sf 5++sgBits pr cs))/\LQ.coefs ((a:Int),pk all) k (o:Int) wst x y z m ro ps es=some (true,(((a+9+o*pr:Nat):Int),pk all),k,(o:Int),wst,(pr:Int),(sf:Int),cs,m,ro,ps,es))\/∃ X x' y' z',LQ.coefs ((a:Int),pk all) k (o:Int) wst x y z m ro ps es=some (false,X,k,(o:Int),wst,x',y',z',m,ro,ps,es):=by
 rcases Get_dec all a 4 h8 ha (by decide) hb with ⟨m4,a1,a2,a3⟩|⟨_,a3⟩
 rotate_left
 ·right
  rcases Get_dec all a 5 h8 ha (by decide) hb with ⟨m5,b1,b2,b3⟩|⟨_,b3⟩
  ·refine ⟨(((a+5:Nat):Int),pk all),x,y,z,?_⟩
   unfold LQ.coefs LQ.coefs.t
   rw [Tr.rB]
   refine (bindT a3).trans ?_
   rw [Tr.rB]
   refine (bindT b3).trans ?_
   rfl
  ·refine ⟨((a:Int),pk all),x,y,z,?_⟩
   unfold LQ.coefs LQ.coefs.t
   rw [Tr.rB]
   refine (bindT a3).trans ?_
   rw [Tr.rB]
   refine (bindT b3).trans ?_
   rfl
 have hle:=a2.le
 rw [a1] at hle
 rcases Get_dec all (a+4) 5 h8 hle (by decide) hb with ⟨m5,b1,b2,b3⟩|⟨_,b3⟩
 rotate_left
 ·right
  refine ⟨(((a+4:Nat):Int),pk all),x,y,z,?_⟩
  unfold LQ.coefs LQ.coefs.t
  rw [Tr.rB]
  refine (bindT a3).trans ?_
  rw [Tr.rB]
  refine (bindT b3).trans ?_
  rfl
 have hle5:=b2.le
 rw [b1] at hle5
 have hv4:=valB_lt m4
 have hv5:=valB_lt m5
 rw [a1] at hv4
 rw [b1] at hv5
 have hbad:∀ (c:Bool) (d:Bool),c=(((valB m4:Nat):Int) == 15)->d=decide (((valB m5:Nat):Int)>15)->(c=true\/d=true)->∃ X x' y' z',LQ.coefs ((a:Int),pk all) k (o:Int) wst x y z m ro ps es=some (false,X,k,(o:Int),wst,x',y',z',m,ro,ps,es):=fun c d hc hd hcd=>by
  refine ⟨(((a+4+5:Nat):Int),pk all),x,y,z,?_⟩
  unfold LQ.coefs LQ.coefs.t
  rw [Tr.rB]
  refine (bindT a3).trans ?_
  rw [Tr.rB]
  refine (bindT b3).trans ?_
  rw [Tr.rB]
  refine (bindT (a:=(true,(((a+4+5:Nat):Int),pk all),k,(o:Int),wst,x,y,z,m,ro,ps,es)) (by
   rw [Tr.rR,show ((0:Int) != 0)=false from rfl,zc,Tr.rR,zc,Tr.rR]
   dsimp only
   rw [←hc]
   cases c with
   |true=>rfl
   |false=>
    rw [zc,Tr.rT,←hd]
    rcases hcd with h|h
    ·cases h
    ·rw [h])).trans ?_
  rfl
 by_cases c15:valB m4=15
 ·exact .inr (hbad true _ (by rw [c15];rfl) rfl (.inl rfl))
 by_cases d15:15<valB m5
 ·exact .inr (hbad _ true rfl (zT (show ((valB m5:Nat):Int)>15 by omega)).symm (.inr rfl))
 have e1:w64 (w64 ((valB m4:Nat):Int)+1)=((valB m4+1:Nat):Int):=by rw [w64_id (x:=((valB m4:Nat):Int)) (by omega),w64_id (by omega)];omega
 have e2:w64 ((valB m5:Nat):Int)=((valB m5:Nat):Int):=w64_id (by omega)
 have hgo:∀ r3,LQ.numbers ((o:Int),((valB m4+1:Nat):Int)) ((a+4+5:Nat):Int) (pk all)=some r3->LQ.coefs ((a:Int),pk all) k (o:Int) wst x y z m ro ps es=some (r3.1.2,(r3.2.1,r3.2.2),k,(o:Int),wst,((valB m4+1:Nat):Int),((valB m5:Nat):Int),r3.1.1,m,ro,ps,es):=fun r3 hr3=>by
  unfold LQ.coefs LQ.coefs.t
  rw [Tr.rB]
  refine (bindT a3).trans ?_
  rw [Tr.rB]
  refine (bindT b3).trans ?_
  rw [Tr.rB]
  refine (bindT (a:=(false,(((a+4+5:Nat):Int),pk all),k,(o:Int),wst,x,y,z,m,ro,ps,es)) (by
   rw [Tr.rR,show ((0:Int) != 0)=false from rfl,zc,Tr.rR,zc,Tr.rR]
   dsimp only
   rw [show (((valB m4:Nat):Int) == 15)=false from by rw [beq_eq_false_iff_ne];omega,zc,Tr.rT,zF (show ¬ ((valB m5:Nat):Int)>15 by omega)])).trans ?_
  rw [Tr.rR,zc,Tr.rB]
  dsimp only
  rw [e1,e2]
  refine (bindT hr3).trans ?_
  rfl
 rcases numbers_dec all (a+4+5) o (valB m4+1) h8 hle5 (by omega) (by omega) (by omega) hb with ⟨l,l1,l2,l3,l4⟩|⟨X,l4⟩
 ·left
  refine ⟨valB m4+1,valB m5,l,by omega,by omega,by omega,l1,l2,?_,?_⟩
  ·rw [Nat.add_sub_cancel]
   have f4:bitsOf (valB m4) 4=m4:=by rw [←a1];exact bitsOf_valB m4
   have f5:bitsOf (valB m5) 5=m5:=by rw [←b1];exact bitsOf_valB m5
   rw [f4,f5]
   exact Bat.join a2 (by rw [a1];exact Bat.join b2 (by rw [b1];exact l3))
  ·exact hgo _ l4
 ·right
  exact ⟨_,_,_,_,hgo _ l4⟩
end
section
set_option maxRecDepth 100000
open Go.LM
theorem part_item (n:Int×Int) (k e:Int) (y:Int×List UInt8) (pos:Int) (row:List UInt8) (l:List Int) (v err:Int) (X:Int×List UInt8) (hl:(l.length:Int)<n.1) (hl2:l.length<=65535)
  (h:(e<0/\LQ.RiceR k pos row=some ((v,err),X))\/(0<e/\LQ.SignedR e pos row=some ((v,err),X))\/(e=0/\v=0/\err=0/\X=(pos,row))) :
  (LQ.part.l0 n (0,k,e,y) 0 (pos,row) l).run=some (.inl (err,X,l++[v])):=by
 have hd:decide (Int.ofNat l.length<n.1)=true:=zT (by simp only [zN];exact hl)
 obtain ⟨x1,x2⟩:=X
 unfold LQ.part.l0
 rw [Tr.rB]
 refine (bindT (a:=(true,(pos,row),l)) (by rw [Tr.rR,hd];rfl)).trans ?_
 rw [Tr.rR,zC,Tr.rB]
 refine (bindT (a:=(err,v,(x1,x2),l)) ?_).trans ?_
 ·rw [Tr.rR]
  rcases h with ⟨h1,h2⟩|⟨h1,h2⟩|⟨h1,h2,h3,h4⟩
  ·show (bif decide (e<0) then _ else _)=_
   rw [zT h1,zC,Tr.rB]
   refine (bindT h2).trans ?_
   rfl
  ·show (bif decide (e<0) then _ else _)=_
   rw [zF (by omega),zc,Tr.rB]
   refine (bindT (a:=(err,v,(x1,x2),l)) ?_).trans ?_
   ·rw [Tr.rR]
    show (bif decide (e>0) then _ else _)=_
    rw [zT (by omega),zC,Tr.rB]
    refine (bindT h2).trans ?_
    rfl
   ·rfl
  ·subst h1;subst h2;subst h3
   cases h4
   rfl
 ·rw [Tr.rN _ (by show (l.length+1)*8<=_;omega),Tr.rT]
  rfl
theorem part_exit (n:Int×Int) (k e err r0:Int) (y:Int×List UInt8) (X:Int×List UInt8) (l:List Int) (h:err≠0\/¬ (l.length:Int)<n.1) :
  (LQ.part.l0 n (r0,k,e,y) err X l).run=some (.inr (err,X,l)):=by
 unfold LQ.part.l0
 rw [Tr.rB]
 refine (bindT (a:=(false,X,l)) (by
  rw [Tr.rR]
  by_cases hl:(l.length:Int)<n.1
  ·rw [zT (show Int.ofNat l.length<n.1 by simp only [zN];exact hl),zC,Tr.rT]
   have he:err≠0:=h.resolve_right (fun c=>c hl)
   rw [show (err == 0)=false from by rw [beq_eq_false_iff_ne];exact he]
  ·rw [zF (show ¬ Int.ofNat l.length<n.1 by simp only [zN];exact hl)];rfl)).trans ?_
 rw [Tr.rR,zc];rfl
def ItOKi (k e n:Int):Prop:=inR n/\(e<0->zz n / 2 ^ k.toNat<=16777216)/\(0<e->fitsW e.toNat n)/\(e=0->n=0)
theorem part_loop (all:List Bool) (b L:Nat) (wide k e:Int) (h8:all.length % 8=0) (hb0:b<=all.length) (hL:L<=65535) (hk:0<=k/\k<=30) (he:-1<=e/\e<=31) (hb:all.length<=281474976710656) :
  ∃ r,loopO (fun (d:Int×(Int×List UInt8)×List Int)=>(LQ.part.l0 ((L:Int),wide) (0,k,e,(b:Int),pk all) d.1 d.2.1 d.2.2).run) ((0:Int),((b:Int),pk all),[])=some r /\
   ((∃ l,l.length=L/\(∀ n∈l,ItOKi k e n)/\Bat all b (l.flatMap (itB k e))/\r=((0:Int),(((b+(l.flatMap (itB k e)).length:Nat):Int),pk all),l))\/∃ e' x l',e'≠0/\r=(e',x,l')):=by
 refine loopO_pq (f:=(fun (d:Int×(Int×List UInt8)×List Int)=>(LQ.part.l0 ((L:Int),wide) (0,k,e,(b:Int),pk all) d.1 d.2.1 d.2.2).run))
  (fun i d=>(i<=L/\∃ l,l.length=i/\(∀ n∈l,ItOKi k e n)/\Bat all b (l.flatMap (itB k e))/\d=((0:Int),(((b+(l.flatMap (itB k e)).length:Nat):Int),pk all),l))\/∃ e' x l',e'≠0/\d=(e',x,l'))
  _ (L+1) (fun i hi d hd=>?_) (fun d hd=>?_) _ (.inl ⟨Nat.zero_le _,[],rfl,(fun n h=>by cases h),Bat.nil hb0,rfl⟩)
 ·rcases hd with ⟨hi2,l,l1,l2,l3,rfl⟩|⟨e',x,l',e0,rfl⟩
  ·by_cases hend:i=L
   ·right
    refine ⟨((0:Int),(((b+(l.flatMap (itB k e)).length:Nat):Int),pk all),l),part_exit _ _ _ _ _ _ _ _ (.inr (by show ¬ (l.length:Int)<(L:Int);omega)),.inl ⟨l,by omega,l2,l3,rfl⟩⟩
   ·left
    have hle:=l3.le
    have hsn:∀ v,(l++[v]).flatMap (itB k e)=l.flatMap (itB k e)++itB k e v:=fun v=>by
     rw [List.flatMap_append];simp
    have hgood:∀ v,ItOKi k e v->Bat all (b+(l.flatMap (itB k e)).length) (itB k e v)->(e<0/\LQ.RiceR k ((b+(l.flatMap (itB k e)).length:Nat):Int) (pk all)=some ((v,0),(((b+(l.flatMap (itB k e)).length+(itB k e v).length:Nat):Int),pk all)))\/(0<e/\LQ.SignedR e ((b+(l.flatMap (itB k e)).length:Nat):Int) (pk all)=some ((v,0),(((b+(l.flatMap (itB k e)).length+(itB k e v).length:Nat):Int),pk all)))\/(e=0/\v=0/\(0:Int)=0/\(((b+(l.flatMap (itB k e)).length+(itB k e v).length:Nat):Int),pk all)=(((b+(l.flatMap (itB k e)).length:Nat):Int),pk all)) ->
      ∃ d',(LQ.part.l0 ((L:Int),wide) (0,k,e,(b:Int),pk all) 0 (((b+(l.flatMap (itB k e)).length:Nat):Int),pk all) l).run=some (.inl d')/\((i+1<=L/\∃ l,l.length=i+1/\(∀ n∈l,ItOKi k e n)/\Bat all b (l.flatMap (itB k e))/\d'=((0:Int),(((b+(l.flatMap (itB k e)).length:Nat):Int),pk all),l))\/∃ e' x l',e'≠0/\d'=(e',x,l')):=fun v v1 v2 v3=>by
     refine ⟨_,part_item ((L:Int),wide) k e ((b:Int),pk all) _ _ l v 0 _ (by show (l.length:Int)<(L:Int);omega) (by omega) v3,.inl ⟨by omega,l++[v],by simp [l1],?_,?_,?_⟩⟩
     ·intro x hx
      rcases List.mem_append.1 hx with h|h
      ·exact l2 x h
      ·rw [List.mem_singleton.1 h];exact v1
     ·rw [hsn];exact Bat.join l3 v2
     ·rw [hsn,zL,Nat.add_assoc]
    have hbadd:∀ v err X,err≠0->((e<0/\LQ.RiceR k ((b+(l.flatMap (itB k e)).length:Nat):Int) (pk all)=some ((v,err),X))\/(0<e/\LQ.SignedR e ((b+(l.flatMap (itB k e)).length:Nat):Int) (pk all)=some ((v,err),X))\/(e=0/\v=0/\err=0/\X=(((b+(l.flatMap (itB k e)).length:Nat):Int),pk all))) ->
      ∃ d',(LQ.part.l0 ((L:Int),wide) (0,k,e,(b:Int),pk all) 0 (((b+(l.flatMap (itB k e)).length:Nat):Int),pk all) l).run=some (.inl d')/\((i+1<=L/\∃ l,l.length=i+1/\(∀ n∈l,ItOKi k e n)/\Bat all b (l.flatMap (itB k e))/\d'=((0:Int),(((b+(l.flatMap (itB k e)).length:Nat):Int),pk all),l))\/∃ e' x l',e'≠0/\d'=(e',x,l')):=fun v err X v0 v3=>by
     refine ⟨_,part_item ((L:Int),wide) k e ((b:Int),pk all) _ _ l v err X (by show (l.length:Int)<(L:Int);omega) (by omega) v3,.inr ⟨err,X,l++[v],v0,rfl⟩⟩
    show ∃ d',(LQ.part.l0 ((L:Int),wide) (0,k,e,(b:Int),pk all) 0 (((b+(l.flatMap (itB k e)).length:Nat):Int),pk all) l).run=some (.inl d')/\_
    by_cases en:e<0
    ·obtain ⟨kn,rfl⟩:∃ kn:Nat,k=(kn:Int):=⟨k.toNat,by omega⟩
     rcases RiceR_dec all (b+(l.flatMap (itB (kn:Int) e)).length) kn h8 hle (by omega) hb with ⟨n,n1,n2,n3,n4⟩|⟨v,err,X,v0,v1⟩
     ·have hit:itB (kn:Int) e n=riB n kn:=by unfold itB;rw [if_pos en,Int.toNat_natCast]
      refine hgood n ⟨n1,fun _=>by rw [Int.toNat_natCast];exact n2,fun h=>by omega,fun h=>by omega⟩ (by rw [hit];exact n3) (.inl ⟨en,?_⟩)
      rw [hit];exact n4
     ·exact hbadd v err X v0 (.inl ⟨en,v1⟩)
    ·by_cases ez:e=0
     ·have hit:itB k e 0=[]:=by unfold itB;rw [if_neg en,if_neg (by omega)]
      refine hgood 0 ⟨by unfold inR;omega,fun h=>by omega,fun h=>by omega,fun _=>rfl⟩ (by rw [hit];exact Bat.nil hle) (.inr (.inr ⟨ez,rfl,rfl,?_⟩))
      rw [hit];rfl
     ·obtain ⟨W,hW⟩:∃ W:Nat,e=(W:Int):=⟨e.toNat,by omega⟩
      have hWt:e.toNat=W:=by omega
      rcases SignedR_dec all (b+(l.flatMap (itB k e)).length) W h8 hle (by omega) (by omega) hb with ⟨n,n1,n2,n3⟩|n3
      ·have hit:itB k e n=bitsOf (two64 n) W:=by unfold itB;rw [if_neg en,if_pos (by omega),hWt]
       refine hgood n ⟨fitsW_inR W n (by omega) n1,fun h=>by omega,fun _=>by rw [hWt];exact n1,fun h=>by omega⟩ (by rw [hit];exact n2) (.inr (.inl ⟨by omega,?_⟩))
       rw [hit,zG,hW] at *
       exact n3
      ·refine hbadd 0 10 (((b+(l.flatMap (itB k e)).length:Nat):Int),pk all) (by decide) (.inr (.inl ⟨by omega,?_⟩))
       rw [hW] at *
       exact n3
  ·right
   exact ⟨(e',x,l'),part_exit _ _ _ _ _ _ _ _ (.inl e0),.inr ⟨e',x,l',e0,rfl⟩⟩
 ·rcases hd with ⟨hi2,_⟩|⟨e',x,l',e0,rfl⟩
  ·omega
  ·exact ⟨(e',x,l'),part_exit _ _ _ _ _ _ _ _ (.inl e0),.inr ⟨e',x,l',e0,rfl⟩⟩
end
section
set_option maxRecDepth 100000
open Go.LM
theorem part_fin (L wide:Nat) (a:Int) (row:List UInt8) (r0:(Int×Int)×Int×List UInt8) (r1:Bool×Int×List UInt8) (r3:Int×Int×Int×Int×List UInt8) (r9:Int×(Int×List UInt8)×List Int) (hL:L<=65535)
  (h0:LQ.Get (wide:Int) a row=some r0)
  (h1:(Tr.br (r0.1.2 == 0) (Tr.need ((0:Int)<=(wide:Int)) (Tr.ret (w64 r0.1.1 == w64 (w64 (1*p2 (wide:Int) 64) - 1),r0.2.1,r0.2.2))) (Tr.ret (false,r0.2.1,r0.2.2))).run=some r1)
  (h3:(Tr.br r1.1 (Tr.bind ((Int×Int)×Int×List UInt8) (LQ.Get 5 r1.2.1 r1.2.2) ((0,0),0,[]) fun (r2:(Int×Int)×Int×List UInt8)=>Tr.ret (r2.1.2,(0:Int),w64 r2.1.1,r2.2.1,r2.2.2)) (Tr.ret (r0.1.2,w64 r0.1.1,(-1:Int),r1.2.1,r1.2.2))).run=some r3)
  (h9:loopO (fun (d:Int×(Int×List UInt8)×List Int)=>(LQ.part.l0 ((L:Int),(wide:Int)) r3 d.1 d.2.1 d.2.2).run) (r3.1,(r3.2.2.2.1,r3.2.2.2.2),[])=some r9) :
  LQ.part ((L:Int),(wide:Int)) a row=some ((r9.2.2,r3.2.1,r3.2.2.1,r9.1 == 0),r9.2.1.1,r9.2.1.2):=by
 unfold LQ.part LQ.part.t
 rw [Tr.rB]
 refine (bindT h0).trans ?_
 rw [Tr.rB]
 refine (bindT h1).trans ?_
 rw [Tr.rB]
 refine (bindT h3).trans ?_
 rw [Tr.rN _ (by
  show (0:Int)<=0/\(0:Int)<=(if (65535:Int)<(L:Int) then 65535 else (L:Int))/\(if (65535:Int)<(L:Int) then (65535:Int) else (L:Int)).toNat*8<=140737488355328
  rw [if_neg (by omega)]
  omega),Tr.rB]
 refine (bindT h9).trans ?_
 rfl
theorem part_dec (all:List Bool) (a L wide:Nat) (h8:all.length % 8=0) (ha:a<=all.length) (hw:wide=4\/wide=5) (hL:L<=65535) (hb:all.length<=281474976710656) :
  (∃ k e l,PtOK wide k e l/\l.length=L/\Bat all a (ptB wide k e l)/\LQ.part ((L:Int),(wide:Int)) (a:Int) (pk all)=some ((l,k,e,true),((a+(ptB wide k e l).length:Nat):Int),pk all))\/∃ l k e X,LQ.part ((L:Int),(wide:Int)) (a:Int) (pk all)=some ((l,k,e,false),X):=by
 have hpw:2 ^ wide<=32:=by rcases hw with rfl|rfl<;>decide
 have hpw2:16<=2 ^ wide:=by rcases hw with rfl|rfl<;>decide
 have hw0:(0:Int)<=(wide:Int):=by omega
 have hmax:w64 (w64 (1*p2 (wide:Int) 64) - 1)=((2 ^ wide - 1:Nat):Int):=by rcases hw with rfl|rfl<;>decide
 rcases Get_dec all a wide h8 ha (by omega) hb with ⟨mid,m1,m2,m3⟩|⟨_,m3⟩
 rotate_left
 ·right
  exact ⟨_,_,_,_,part_fin L wide (a:Int) (pk all) _ (false,(a:Int),pk all) ((10:Int),(0:Int),(-1:Int),(a:Int),pk all) ((10:Int),((a:Int),pk all),[]) hL m3 rfl rfl (loopO_done (part_exit ((L:Int),(wide:Int)) 0 (-1) 10 10 ((a:Int),pk all) ((a:Int),pk all) [] (.inl (by decide))))⟩
 have hle:=m2.le
 rw [m1] at hle
 have hv:=valB_lt mid
 rw [m1] at hv
 have hwv:w64 ((valB mid:Nat):Int)=((valB mid:Nat):Int):=w64_id (by omega)
 have hfm:bitsOf (valB mid) wide=mid:=by rw [←m1];exact bitsOf_valB mid
 have h1:∀ c:Bool,c=decide (valB mid=2 ^ wide - 1)->(Tr.br ((0:Int) == 0) (Tr.need ((0:Int)<=(wide:Int)) (Tr.ret (w64 ((valB mid:Nat):Int) == w64 (w64 (1*p2 (wide:Int) 64) - 1),((a+wide:Nat):Int),pk all))) (Tr.ret (false,((a+wide:Nat):Int),pk all))).run=some (c,((a+wide:Nat):Int),pk all):=fun c hc=>by
  rw [Tr.rR,show ((0:Int) == 0)=true from rfl,zC,Tr.rN _ hw0,Tr.rT,hwv,hmax,hc]
  congr 2
  rw [Bool.eq_iff_iff,beq_iff_eq,decide_eq_true_eq]
  omega
 by_cases hesc:valB mid=2 ^ wide - 1
 ·
  rcases Get_dec all (a+wide) 5 h8 hle (by decide) hb with ⟨m5,b1,b2,b3⟩|⟨_,b3⟩
  rotate_left
  ·right
   exact ⟨_,_,_,_,part_fin L wide (a:Int) (pk all) _ (true,((a+wide:Nat):Int),pk all) ((10:Int),(0:Int),(0:Int),((a+wide:Nat):Int),pk all) ((10:Int),(((a+wide:Nat):Int),pk all),[]) hL m3 (h1 true (zT hesc).symm) (by
    rw [Tr.rR,zC,Tr.rB]
    refine (bindT b3).trans ?_
    rfl) (loopO_done (part_exit ((L:Int),(wide:Int)) 0 0 10 10 (((a+wide:Nat):Int),pk all) (((a+wide:Nat):Int),pk all) [] (.inl (by decide))))⟩
  have hle5:=b2.le
  rw [b1] at hle5
  have hv5:=valB_lt m5
  rw [b1] at hv5
  have hw5:w64 ((valB m5:Nat):Int)=((valB m5:Nat):Int):=w64_id (by omega)
  obtain ⟨r,r1,r2⟩:=part_loop all (a+wide+5) L (wide:Int) 0 ((valB m5:Nat):Int) h8 hle5 hL (by omega) (by omega) hb
  have hfin:=part_fin L wide (a:Int) (pk all) _ (true,((a+wide:Nat):Int),pk all) ((0:Int),(0:Int),((valB m5:Nat):Int),((a+wide+5:Nat):Int),pk all) r hL m3 (h1 true (zT hesc).symm) (by
    rw [Tr.rR,zC,Tr.rB]
    refine (bindT b3).trans ?_
    rw [Tr.rT]
    dsimp only
    rw [hw5]) r1
  rcases r2 with ⟨l,l1,l2,l3,rfl⟩|⟨e',x,l',e0,rfl⟩
  ·left
   have hf5:bitsOf (valB m5) 5=m5:=by rw [←b1];exact bitsOf_valB m5
   have hpt:ptB wide 0 ((valB m5:Nat):Int) l=(mid++m5)++l.flatMap (itB 0 ((valB m5:Nat):Int)):=by
    unfold ptB
    rw [if_neg (by omega),←hesc,hfm,Int.toNat_natCast,hf5]
   refine ⟨0,((valB m5:Nat):Int),l,⟨hw,by omega,by omega,by omega,by omega,fun _=>rfl,l2⟩,l1,?_,?_⟩
   ·rw [hpt]
    exact Bat.join (Bat.join m2 (by rw [m1];exact b2)) (by rw [zL,m1,b1,←Nat.add_assoc];exact l3)
   ·refine hfin.trans ?_
    rw [hpt,zL,zL,m1,b1,←Nat.add_assoc,←Nat.add_assoc]
    rfl
  ·right
   have hx:(e' == 0)=false:=beq_eq_false_iff_ne.2 e0
   dsimp only at hfin
   rw [hx] at hfin
   exact ⟨_,_,_,_,hfin⟩
 ·
  obtain ⟨r,r1,r2⟩:=part_loop all (a+wide) L (wide:Int) ((valB mid:Nat):Int) (-1) h8 hle hL (by omega) (by omega) hb
  have hfin:=part_fin L wide (a:Int) (pk all) _ (false,((a+wide:Nat):Int),pk all) ((0:Int),((valB mid:Nat):Int),(-1:Int),((a+wide:Nat):Int),pk all) r hL m3 (h1 false (zF hesc).symm) (by
    rw [Tr.rR,zc,Tr.rT]
    dsimp only
    rw [hwv]) r1
  rcases r2 with ⟨l,l1,l2,l3,rfl⟩|⟨e',x,l',e0,rfl⟩
  ·left
   have hpt:ptB wide ((valB mid:Nat):Int) (-1) l=mid++l.flatMap (itB ((valB mid:Nat):Int) (-1)):=by
    unfold ptB
    rw [if_pos (by omega),Int.toNat_natCast,hfm]
   refine ⟨((valB mid:Nat):Int),-1,l,⟨hw,by omega,by omega,by omega,by omega,fun h=>by omega,l2⟩,l1,?_,?_⟩
   ·rw [hpt]
    exact Bat.join m2 (by rw [m1];exact l3)
   ·refine hfin.trans ?_
    rw [hpt,zL,m1,←Nat.add_assoc]
    rfl
  ·right
   have hx:(e' == 0)=false:=beq_eq_false_iff_ne.2 e0
   dsimp only at hfin
   rw [hx] at hfin
   exact ⟨_,_,_,_,hfin⟩
end
section
set_option maxRecDepth 100000
open Go.LM
theorem cutN_app (l p:List Int) (o n j:Nat) (h:(j+1)*n - o<=l.length):cutN (l++p) o n j=cutN l o n j:=by
 unfold cutN
 have h2:j*n - o<=(j+1)*n - o:=by rw [Nat.add_mul,Nat.one_mul];omega
 rw [List.drop_append_of_le_length (by omega),List.take_append_of_le_length (by rw [List.length_drop];omega)]
theorem cutN_new (l p:List Int) (o n i:Nat) (h:l.length=i*n - o) (hp:p.length=(i+1)*n - o - (i*n - o)):cutN (l++p) o n i=p:=by
 unfold cutN
 rw [←hp,←h,List.drop_left,List.take_length]
theorem flat_range_congr (f g:Nat->List Bool):∀ i,(∀ j,j<i->f j=g j)->(List.range i).flatMap f=(List.range i).flatMap g
 |0,_=>rfl
 |i+1,h=>by
  rw [List.range_succ,List.flatMap_append,List.flatMap_append,flat_range_congr f g i (fun j hj=>h j (by omega))]
  simp [h i (by omega)]
theorem getD_app {α:Type} (l:List α) (x z:α) (j:Nat) (h:j<l.length):(l++[x]).getD j z=l.getD j z:=by
 rw [List.getD_eq_getElem?_getD,List.getD_eq_getElem?_getD,List.getElem?_append_left h]
theorem getD_new {α:Type} (l:List α) (x z:α):(l++[x]).getD l.length z=x:=by
 rw [List.getD_eq_getElem?_getD,List.getElem?_append_right (Nat.le_refl _),Nat.sub_self];rfl
theorem rDec_bad1 (all:List Bool) (a block order:Nat) (x:Bool) (b1:1<=block) (b2:block<=65535) (ho:order<=32) (hob:order<=block) (r1 r2:(Int×Int)×Int×List UInt8) (h1:LQ.Get 2 (a:Int) (pk all)=some r1) (h2:LQ.Get 4 r1.2.1 r1.2.2=some r2)
  (hx:(Tr.br (r1.1.2 != 0) (Tr.ret (true,(r2.2.1,r2.2.2),((0:Int),(0:Int)),w64 r1.1.1,w64 r2.1.1)) (Tr.br (r2.1.2 != 0) (Tr.ret (true,(r2.2.1,r2.2.2),((0:Int),(0:Int)),w64 r1.1.1,w64 r2.1.1)) (Tr.bind Bool (LQ.rshape (w64 r1.1.1,w64 r2.1.1,[],[],()) (block:Int) (order:Int)) false fun (r3:Bool)=>Tr.ret (!r3,(r2.2.1,r2.2.2),((0:Int),(0:Int)),w64 r1.1.1,w64 r2.1.1)))).run=some (true,(r2.2.1,r2.2.2),((0:Int),(0:Int)),w64 r1.1.1,w64 r2.1.1)) :
  LQ.rDec ((block:Int),(order:Int)) (a:Int) (pk all)=some (([],((0:Int),(0:Int),[],[],()),2),r2.2.1,r2.2.2):=by
 unfold LQ.rDec LQ.rDec.t
 have d1:decide ((block:Int)<1)=false:=zF (by omega)
 have d2:decide ((block:Int)>65535)=false:=zF (by omega)
 have d3:decide ((order:Int)<0)=false:=zF (by omega)
 have d4:decide ((order:Int)>32)=false:=zF (by omega)
 have d5:decide ((order:Int)>(block:Int))=false:=zF (by omega)
 dsimp only
 rw [Tr.rB]
 refine (bindT (a:=(false,((a:Int),pk all),(0:Int),(0:Int))) (by
  rw [Tr.rR,zc,Tr.rR,d1,zc,Tr.rR,d2,zc,Tr.rR,d3,zc,Tr.rR,d4,zc,Tr.rT,d5])).trans ?_
 dsimp only
 rw [Tr.rR,zc,Tr.rB]
 refine (bindT h1).trans ?_
 rw [Tr.rB]
 refine (bindT h2).trans ?_
 rw [Tr.rB]
 refine (bindT hx).trans ?_
 rfl
theorem rDec_dec (all:List Bool) (a block order:Nat) (h8:all.length % 8=0) (ha:a<=all.length) (b1:1<=block) (b2:block<=65535) (ho:order<=32) (hob:order<=block) (hb:all.length<=281474976710656) :
  (∃ (m ro:Nat) (ps es l:List Int),RiOK m ro ps es block order l/\Bat all a (riceB m ro ps es (block / 2 ^ ro) order l)/\LQ.rDec ((block:Int),(order:Int)) (a:Int) (pk all)=some ((l,((m:Int),(ro:Int),ps,es,()),0),((a+(riceB m ro ps es (block / 2 ^ ro) order l).length:Nat):Int),pk all))\/∃ l q e X,e≠0/\LQ.rDec ((block:Int),(order:Int)) (a:Int) (pk all)=some ((l,q,e),X):=by
 rcases Get_dec all a 2 h8 ha (by decide) hb with ⟨m2,p1,p2',p3⟩|⟨_,p3⟩
 rotate_left
 ·right
  rcases Get_dec all a 4 h8 ha (by decide) hb with ⟨m4,q1,q2,q3⟩|⟨_,q3⟩
  ·exact ⟨_,_,2,_,by decide,rDec_bad1 all a block order true b1 b2 ho hob _ _ p3 q3 rfl⟩
  ·exact ⟨_,_,2,_,by decide,rDec_bad1 all a block order true b1 b2 ho hob _ _ p3 q3 rfl⟩
 have hle2:=p2'.le
 rw [p1] at hle2
 rcases Get_dec all (a+2) 4 h8 hle2 (by decide) hb with ⟨m4,q1,q2,q3⟩|⟨_,q3⟩
 rotate_left
 ·right
  exact ⟨_,_,2,_,by decide,rDec_bad1 all a block order true b1 b2 ho hob _ _ p3 q3 rfl⟩
 have hle4:=q2.le
 rw [q1] at hle4
 have hv2:=valB_lt m2
 have hv4:=valB_lt m4
 rw [p1] at hv2
 rw [q1] at hv4
 have hf2:bitsOf (valB m2) 2=m2:=by rw [←p1];exact bitsOf_valB m2
 have hf4:bitsOf (valB m4) 4=m4:=by rw [←q1];exact bitsOf_valB m4
 have wm:w64 ((valB m2:Nat):Int)=((valB m2:Nat):Int):=w64_id (by omega)
 have wo:w64 ((valB m4:Nat):Int)=((valB m4:Nat):Int):=w64_id (by omega)
 rcases rshape_dec ((valB m2:Nat):Int) ((valB m4:Nat):Int) block order [] [] (by unfold inR;omega) ⟨b1,b2⟩ ho with ⟨m,ro,em,ero,hm,ro15,dv,ge,hsh⟩|hsh
 rotate_left
 ·right
  refine ⟨_,_,2,_,by decide,rDec_bad1 all a block order true b1 b2 ho hob _ _ p3 q3 ?_⟩
  rw [Tr.rR,bne_self_eq_false,zc,Tr.rR,zc,Tr.rB]
  dsimp only
  rw [wm,wo,hsh];rfl
 have em':valB m2=m:=by omega
 have ero':valB m4=ro:=by omega
 rw [em'] at p3 hf2 wm hsh
 rw [ero'] at q3 hf4 wo hsh
 have hN:2 ^ ro<=2 ^ 15:=Nat.pow_le_pow_right (by decide) ro15
 have hdiv:((block:Int) / ((2 ^ ro:Nat):Int))=((block / 2 ^ ro:Nat):Int):=rfl
 generalize hn:block / 2 ^ ro=n at *
 generalize hNN:2 ^ ro=N at *
 have hNn:N*n=block:=by rw [Nat.mul_comm];exact dv
 have hlo:=loopO_pq (f:=fun (d:Int×(Int×List UInt8)×(Int×Int)×(Int×Int)×List Int×List Int×List Int)=>(LQ.rDec.l0 ((block:Int),(order:Int)) (false,(((a+2+4:Nat):Int),pk all),((0:Int),(0:Int)),(m:Int),(ro:Int)) d.1 d.2.1 d.2.2.1 d.2.2.2.1 d.2.2.2.2.1 d.2.2.2.2.2.1 d.2.2.2.2.2.2).run)
  (fun i d=>∃ l ps es:List Int,l.length=i*n - order/\ps.length=i/\es.length=i/\(∀ j,j<i->PtOK (4+m) (ps.getD j 0) (es.getD j 0) (cutN l order n j))/\Bat all (a+2+4) ((List.range i).flatMap (ptG m ps es l order n))/\d=((i:Int),(((a+2+4+((List.range i).flatMap (ptG m ps es l order n)).length:Nat):Int),pk all),((0:Int),(0:Int)),((m:Int),(ro:Int)),l,ps,es))
  (fun r=>(∃ l ps es:List Int,l.length=N*n - order/\ps.length=N/\es.length=N/\(∀ j,j<N->PtOK (4+m) (ps.getD j 0) (es.getD j 0) (cutN l order n j))/\Bat all (a+2+4) ((List.range N).flatMap (ptG m ps es l order n))/\r=.inr ((((a+2+4+((List.range N).flatMap (ptG m ps es l order n)).length:Nat):Int),pk all),((0:Int),(0:Int)),((m:Int),(ro:Int)),l,ps,es))\/∃ X,r=.inl (2,X,0,0)) N (fun i hi d hd=>by
   obtain ⟨l,ps,es,l1,l2,l3,l4,l5,rfl⟩:=hd
   have hle:=l5.le
   have hmul:(i+1)*n<=N*n:=Nat.mul_le_mul_right n hi
   have hin:i*n+n=(i+1)*n:=by rw [Nat.add_mul,Nat.one_mul]
   have w4:w64 ((4:Int)+(m:Int))=((4+m:Nat):Int):=by rw [w64_id (by omega)];omega
   have wN:w64 ((1:Int)*p2 (ro:Int) 64)=(N:Int):=by rw [p2_nat _ _ (by omega),hNN,w64_id (by omega)];omega
   have hrun:∀ r6,LQ.part ((((i+1)*n - order - (i*n - order):Nat):Int),((4+m:Nat):Int)) ((a+2+4+((List.range i).flatMap (ptG m ps es l order n)).length:Nat):Int) (pk all)=some r6->r6.1.1.length<=65535->(LQ.rDec.l0 ((block:Int),(order:Int)) (false,(((a+2+4:Nat):Int),pk all),((0:Int),(0:Int)),(m:Int),(ro:Int)) (i:Int) (((a+2+4+((List.range i).flatMap (ptG m ps es l order n)).length:Nat):Int),pk all) ((0:Int),(0:Int)) ((m:Int),(ro:Int)) l ps es).run=bif r6.1.2.2.2 then some (.inl (((i+1:Nat):Int),(r6.2.1,r6.2.2),((0:Int),(0:Int)),((m:Int),(ro:Int)),l++r6.1.1,ps++[r6.1.2.1],es++[r6.1.2.2.1])) else some (.inr (.inl (2,(r6.2.1,r6.2.2),0,0))):=fun r6 h6 h6l=>by
    unfold LQ.rDec.l0
    dsimp only
    rw [wN,Tr.rR,zT (show (i:Int)<(N:Int) by omega),zC,Tr.rN _ (by omega),Tr.rB]
    refine (bindT (a:=((((i+1)*n - order - (i*n - order):Nat):Int),(((a+2+4+((List.range i).flatMap (ptG m ps es l order n)).length:Nat):Int),pk all),((0:Int),(0:Int)),((m:Int),(ro:Int)),l,ps,es)) (by
     rw [Tr.rR,p2_nat _ _ (by omega),hNN,hdiv]
     by_cases h0:i=0
     ·subst h0
      rw [show (((0:Nat):Int) == 0)=true from rfl,zC,Tr.rT,w64_id (by omega),show (n:Int) - (order:Int)=(((0+1)*n - order - (0*n - order):Nat):Int) by omega]
     ·have h1:1*n<=i*n:=Nat.mul_le_mul_right n (by omega)
      rw [show ((i:Int) == 0)=false from beq_eq_false_iff_ne.2 (by omega),zc,Tr.rT,show ((n:Nat):Int)=(((i+1)*n - order - (i*n - order):Nat):Int) by omega])).trans ?_
    dsimp only
    rw [w4,Tr.rB]
    refine (bindT h6).trans ?_
    obtain ⟨⟨pl,pk',pe,pb⟩,x1,x2⟩:=r6
    dsimp only at h6l ⊢
    cases pb with
    |false=>rfl
    |true=>
     rw [Bool.not_true,Tr.rR,zc,Tr.rN _ (by omega),Tr.rN _ (by simp only [List.length_set,List.length_replicate];omega),Tr.rN _ (by simp only [List.length_set,List.length_replicate];omega),Tr.rT,w64_id (x:=(i:Int)+1) (by omega)]
     rfl
   show (∃ d',(LQ.rDec.l0 ((block:Int),(order:Int)) (false,(((a+2+4:Nat):Int),pk all),((0:Int),(0:Int)),(m:Int),(ro:Int)) (i:Int) (((a+2+4+((List.range i).flatMap (ptG m ps es l order n)).length:Nat):Int),pk all) ((0:Int),(0:Int)) ((m:Int),(ro:Int)) l ps es).run=some (.inl d')/\_)\/∃ r,(LQ.rDec.l0 ((block:Int),(order:Int)) (false,(((a+2+4:Nat):Int),pk all),((0:Int),(0:Int)),(m:Int),(ro:Int)) (i:Int) (((a+2+4+((List.range i).flatMap (ptG m ps es l order n)).length:Nat):Int),pk all) ((0:Int),(0:Int)) ((m:Int),(ro:Int)) l ps es).run=some (.inr r)/\_
   rcases part_dec all (a+2+4+((List.range i).flatMap (ptG m ps es l order n)).length) ((i+1)*n - order - (i*n - order)) (4+m) h8 hle (by omega) (by omega) hb with ⟨k,e,p,c1,c2,c3,c4⟩|⟨p,k,e,X,c4⟩
   ·left
    have hr:=hrun _ c4 (by rw [c2];omega)
    have hcut:∀ j,j<i->cutN (l++p) order n j=cutN l order n j:=fun j hj=>by
     refine cutN_app l p order n j ?_
     have:(j+1)*n<=i*n:=Nat.mul_le_mul_right n hj
     omega
    have hnew:=cutN_new l p order n i l1 c2
    have hg1:∀ j,j<i->(ps++[k]).getD j 0=ps.getD j 0:=fun j hj=>getD_app ps k 0 j (by omega)
    have hg2:∀ j,j<i->(es++[e]).getD j 0=es.getD j 0:=fun j hj=>getD_app es e 0 j (by omega)
    have hk1:(ps++[k]).getD i 0=k:=by rw [←l2];exact getD_new ps k 0
    have hk2:(es++[e]).getD i 0=e:=by rw [←l3];exact getD_new es e 0
    have hflat:(List.range (i+1)).flatMap (ptG m (ps++[k]) (es++[e]) (l++p) order n)=(List.range i).flatMap (ptG m ps es l order n)++ptB (4+m) k e p:=by
     rw [List.range_succ,List.flatMap_append,flat_range_congr _ (ptG m ps es l order n) i (fun j hj=>by unfold ptG;rw [hg1 j hj,hg2 j hj,hcut j hj])]
     congr 1
     show List.flatMap (ptG m (ps++[k]) (es++[e]) (l++p) order n) [i]=_
     rw [List.flatMap_cons,List.flatMap_nil,List.append_nil]
     unfold ptG
     rw [hk1,hk2,hnew]
    refine ⟨_,hr,l++p,ps++[k],es++[e],by rw [zL,l1,c2];omega,by simp [l2],by simp [l3],?_,?_,?_⟩
    ·intro j hj
     by_cases hji:j=i
     ·subst hji
      rw [hk1,hk2,hnew];exact c1
     ·rw [hg1 j (by omega),hg2 j (by omega),hcut j (by omega)]
      exact l4 j (by omega)
    ·rw [hflat];exact Bat.join l5 c3
    ·rw [hflat,zL,Nat.add_assoc (a+2+4)]
   ·right
    by_cases hpl:p.length<=65535
    ·exact ⟨_,hrun _ c4 hpl,.inr ⟨_,rfl⟩⟩
    ·refine ⟨.inl (2,(X.1,X.2),0,0),?_,.inr ⟨_,rfl⟩⟩
     unfold LQ.rDec.l0
     dsimp only
     rw [wN,Tr.rR,zT (show (i:Int)<(N:Int) by omega),zC,Tr.rN _ (by omega),Tr.rB]
     refine (bindT (a:=((((i+1)*n - order - (i*n - order):Nat):Int),(((a+2+4+((List.range i).flatMap (ptG m ps es l order n)).length:Nat):Int),pk all),((0:Int),(0:Int)),((m:Int),(ro:Int)),l,ps,es)) (by
      rw [Tr.rR,p2_nat _ _ (by omega),hNN,hdiv]
      by_cases h0:i=0
      ·subst h0
       rw [show (((0:Nat):Int) == 0)=true from rfl,zC,Tr.rT,w64_id (by omega),show (n:Int) - (order:Int)=(((0+1)*n - order - (0*n - order):Nat):Int) by omega]
      ·have h1:1*n<=i*n:=Nat.mul_le_mul_right n (by omega)
       rw [show ((i:Int) == 0)=false from beq_eq_false_iff_ne.2 (by omega),zc,Tr.rT,show ((n:Nat):Int)=(((i+1)*n - order - (i*n - order):Nat):Int) by omega])).trans ?_
     dsimp only
     rw [w4,Tr.rB]
     refine (bindT c4).trans ?_
     rfl) (fun d hd=>by
   obtain ⟨l,ps,es,l1,l2,l3,l4,l5,rfl⟩:=hd
   refine ⟨_,?_,.inl ⟨l,ps,es,l1,l2,l3,l4,l5,rfl⟩⟩
   have wN:w64 ((1:Int)*p2 (ro:Int) 64)=(N:Int):=by rw [p2_nat _ _ (by omega),hNN,w64_id (by omega)];omega
   show (LQ.rDec.l0 ((block:Int),(order:Int)) (false,(((a+2+4:Nat):Int),pk all),((0:Int),(0:Int)),(m:Int),(ro:Int)) (N:Int) _ ((0:Int),(0:Int)) ((m:Int),(ro:Int)) l ps es).run=_
   unfold LQ.rDec.l0
   dsimp only
   rw [wN,Tr.rR,zF (by omega),zc,Tr.rT]) ((0:Int),(((a+2+4:Nat):Int),pk all),((0:Int),(0:Int)),((m:Int),(ro:Int)),[],[],[]) ⟨[],[],[],by simp,rfl,rfl,(fun j hj=>by omega),Bat.nil hle4,rfl⟩
 obtain ⟨r,r1,r2⟩:=hlo
 have hfin:∀ (K:Option ((List Int×(Int×Int×List Int×List Int×Unit)×Int)×Int×List UInt8)),(match r with | .inl x=>some (([],(x.2.2.1,x.2.2.2,[],[],()),x.1),x.2.1.1,x.2.1.2) | .inr y=>some ((y.2.2.2.1,(y.2.2.1.1,y.2.2.1.2,y.2.2.2.2.1,y.2.2.2.2.2,()),0),y.1.1,y.1.2))=K->LQ.rDec ((block:Int),(order:Int)) (a:Int) (pk all)=K:=fun K hK=>by
  unfold LQ.rDec LQ.rDec.t
  have d1:decide ((block:Int)<1)=false:=zF (by omega)
  have d2:decide ((block:Int)>65535)=false:=zF (by omega)
  have d3:decide ((order:Int)<0)=false:=zF (by omega)
  have d4:decide ((order:Int)>32)=false:=zF (by omega)
  have d5:decide ((order:Int)>(block:Int))=false:=zF (by omega)
  dsimp only
  rw [Tr.rB]
  refine (bindT (a:=(false,((a:Int),pk all),(0:Int),(0:Int))) (by
   rw [Tr.rR,zc,Tr.rR,d1,zc,Tr.rR,d2,zc,Tr.rR,d3,zc,Tr.rR,d4,zc,Tr.rT,d5])).trans ?_
  dsimp only
  rw [Tr.rR,zc,Tr.rB]
  refine (bindT p3).trans ?_
  dsimp only
  rw [Tr.rB]
  refine (bindT q3).trans ?_
  dsimp only
  rw [Tr.rB]
  refine (bindT (a:=(false,(((a+2+4:Nat):Int),pk all),((0:Int),(0:Int)),(m:Int),(ro:Int))) (by
   rw [Tr.rR,bne_self_eq_false,zc,Tr.rR,zc,Tr.rB,wm,wo,hsh];rfl)).trans ?_
  dsimp only
  rw [Tr.rR,zc,Tr.rN _ (by omega),Tr.rB]
  refine (bindT r1).trans ?_
  rw [←hK]
  cases r with
  |inl x=>rfl
  |inr y=>rfl
 rcases r2 with ⟨l,ps,es,l1,l2,l3,l4,l5,rfl⟩|⟨X,rfl⟩
 ·left
  refine ⟨m,ro,ps,es,l,⟨hm,ro15,b1,b2,ho,by rw [hNN,hn];exact dv,by rw [hNN,hn];exact ge,by rw [hNN];exact l2,by rw [hNN];exact l3,by rw [l1,hNn],by rw [hNN,hn];exact l4⟩,?_,?_⟩
  ·rw [hNN,hn]
   unfold riceB
   rw [hNN,hf2,hf4]
   exact Bat.join p2' (by rw [p1];exact Bat.join q2 (by rw [q1];exact l5))
  ·refine hfin _ ?_
   rw [hNN,hn]
   unfold riceB
   rw [hNN,zL,zL,zG,zG,←Nat.add_assoc,←Nat.add_assoc]
 ·right
  exact ⟨_,_,2,_,by decide,hfin _ rfl⟩
end
section
set_option maxRecDepth 100000
open Go.LM
structure HdOK (s:Sb) (W n:Nat):Prop where
 k3:s.k<=3
 low:s.k<2->s.o=0
 fix:s.k=2->s.o<=4
 lpc:s.k=3->1<=s.o/\s.o<=32
 ob:s.o<=n
 ws:s.wst<W
theorem typ_cases (t:Nat) (h:t<128):(∃ k o,(k<=3/\(k<2->o=0)/\(k=2->o<=4)/\(k=3->1<=o/\o<=32))/\(if k<2 then k else if k=2 then 8+o else 31+o)=t)\/(2<=t/\t<8)\/(13<=t/\t<32)\/64<=t:=by
 by_cases h1:t<2
 ·exact .inl ⟨t,0,⟨by omega,fun _=>rfl,fun _=>by omega,fun _=>by omega⟩,by rw [if_pos h1]⟩
 by_cases h2:t<8
 ·exact .inr (.inl (by omega))
 by_cases h3:t<13
 ·exact .inl ⟨2,t - 8,⟨by omega,fun _=>by omega,fun _=>by omega,fun _=>by omega⟩,by rw [if_neg (by decide),if_pos rfl];omega⟩
 by_cases h4:t<32
 ·exact .inr (.inr (.inl (by omega)))
 by_cases h5:t<64
 ·exact .inl ⟨3,t - 31,⟨by omega,fun _=>by omega,fun _=>by omega,fun _=>by omega⟩,by rw [if_neg (by decide),if_neg (by decide)];omega⟩
 ·exact .inr (.inr (.inr (by omega)))
theorem bits8 (mid:List Bool) (h:mid.length=8):mid=bitsOf (valB mid / 2) 7++[valB mid % 2 == 1]:=by
 have e:=bitsOf_valB mid
 rw [h,bitsOf_snoc] at e
 exact e.symm
theorem head_end (a W block T v k o wst pos:Nat) (row:List UInt8) (c:Bool) (hv:v<256) (hT:v / 2=T) (htv:(k<2/\o=0/\T=k)\/(k=2/\o<=4/\T=8+o)\/(k=3/\1<=o/\o<=32/\T=31+o)) (hg:LQ.Get 8 (a:Int) row=some (((v:Int),0),((a+8:Nat):Int),row)) (hq:wst<=20000000)
  (hw:(v % 2=0/\wst=0/\pos=a+8)\/(v % 2=1/\1<=wst/\LQ.UnaryR ((a+8:Nat):Int) row=some ((((wst - 1:Nat):Int),0),(pos:Int),row))) (hc:c=decide (wst<W/\o<=block)) :
  LQ.head ((block:Int),(W:Int)) (a:Int) row=some ((((k:Int),(o:Int),(wst:Int),0,0,[],(0,0,[],[],()),()),c),(pos:Int),row):=by
 have hdiv:w64 (((v:Nat):Int) / 2)=(T:Int):=by rw [w64_id (by omega)];omega
 have hand:=and1 v (by omega)
 unfold LQ.head LQ.head.t
 dsimp only
 rw [Tr.rB]
 refine (bindT hg).trans ?_
 dsimp only
 rw [Tr.rR,show ((0:Int) != 0)=false from rfl,zc,Tr.rB,hdiv]
 refine (bindT (a:=Sum.inl ((((a+8:Nat):Int),row),(0,0,0,0,0,0,0),(k:Int),(o:Int),0,0,0,0,0)) (by
   rcases htv with ⟨h2,rfl,rfl⟩|⟨rfl,h4,rfl⟩|⟨rfl,h1,h32,rfl⟩
   ·rw [Tr.rR,zT (by omega),zC,Tr.rT];rfl
   ·have d1:decide (((8+o:Nat):Int)<2)=false:=zF (by omega)
    have d2:decide (((8+o:Nat):Int)>=8)=true:=zT (by omega)
    have d3:decide (((8+o:Nat):Int)<=12)=true:=zT (by omega)
    have e1:w64 (((8+o:Nat):Int) - 8)=(o:Int):=by rw [w64_id (by omega)];omega
    simp only [Tr.rB,Tr.rR,Tr.rT,Tr.run_csl,Tr.run_csr,zE,d1,d2,d3,e1,zC,zc]
    rfl
   ·have d1:decide (((31+o:Nat):Int)<2)=false:=zF (by omega)
    have d2:decide (((31+o:Nat):Int)>=8)=true:=zT (by omega)
    have d3:decide (((31+o:Nat):Int)<=12)=false:=zF (by omega)
    have d4:decide (((31+o:Nat):Int)>=32)=true:=zT (by omega)
    have d5:decide (((31+o:Nat):Int)<=63)=true:=zT (by omega)
    have e1:w64 (((31+o:Nat):Int) - 31)=(o:Int):=by rw [w64_id (by omega)];omega
    simp only [Tr.rB,Tr.rR,Tr.rT,Tr.run_csl,Tr.run_csr,zE,d1,d2,d3,d4,d5,e1,zC,zc]
    rfl)).trans ?_
 rw [Tr.run_csl,Tr.rB]
 dsimp only
 rw [hand]
 refine (bindT (a:=Sum.inr (((pos:Int),row),(0,0,0,0,0,0,0),(k:Int),(o:Int),(wst:Int),0,0,0,0)) (by
  rcases hw with ⟨h0,rfl,rfl⟩|⟨h1,h2,h3⟩
  ·rw [h0,Tr.rR];rfl
  ·rw [h1,Tr.rR,show (((1:Nat):Int) == 1)=true from rfl,zC,Tr.rB]
   refine (bindT h3).trans ?_
   dsimp only
   rw [Tr.rR,show ((0:Int) != 0)=false from rfl,zc,Tr.rT,w64_id (by omega),show ((wst - 1:Nat):Int)+1=(wst:Int) by omega])).trans ?_
 rw [Tr.run_csr,Tr.rB]
 dsimp only
 refine (bindT (a:=(c,((pos:Int),row),(k:Int),(o:Int),(wst:Int),0,0,0,0)) (by
  rw [Tr.rR,hc]
  by_cases h1:wst<W
  ·rw [zT (show (wst:Int)<(W:Int) by omega),zC,Tr.rT]
   congr 2
   exact decide_eq_decide.2 (by omega)
  ·rw [zF (show ¬ (wst:Int)<(W:Int) by omega),zc,Tr.rT,zF (by omega)])).trans ?_
 rfl
theorem head_una (a W block T v k o:Nat) (row:List UInt8) (u e:Int) (X:Int×List UInt8) (hv:v<256) (hT:v / 2=T) (htv:(k<2/\o=0/\T=k)\/(k=2/\o<=4/\T=8+o)\/(k=3/\1<=o/\o<=32/\T=31+o)) (hg:LQ.Get 8 (a:Int) row=some (((v:Int),0),((a+8:Nat):Int),row)) (h1:v % 2=1) (he:e≠0) (h3:LQ.UnaryR ((a+8:Nat):Int) row=some ((u,e),X)) :
  ∃ d Y,LQ.head ((block:Int),(W:Int)) (a:Int) row=some ((d,false),Y):=by
 have hdiv:w64 (((v:Nat):Int) / 2)=(T:Int):=by rw [w64_id (by omega)];omega
 have hand:=and1 v (by omega)
 refine ⟨((k:Int),(o:Int),0,0,0,[],(0,0,[],[],()),()),X,?_⟩
 unfold LQ.head LQ.head.t
 dsimp only
 rw [Tr.rB]
 refine (bindT hg).trans ?_
 dsimp only
 rw [Tr.rR,show ((0:Int) != 0)=false from rfl,zc,Tr.rB,hdiv]
 refine (bindT (a:=Sum.inl ((((a+8:Nat):Int),row),(0,0,0,0,0,0,0),(k:Int),(o:Int),0,0,0,0,0)) (by
   rcases htv with ⟨h2,rfl,rfl⟩|⟨rfl,h4,rfl⟩|⟨rfl,h1,h32,rfl⟩
   ·rw [Tr.rR,zT (by omega),zC,Tr.rT];rfl
   ·have d1:decide (((8+o:Nat):Int)<2)=false:=zF (by omega)
    have d2:decide (((8+o:Nat):Int)>=8)=true:=zT (by omega)
    have d3:decide (((8+o:Nat):Int)<=12)=true:=zT (by omega)
    have e1:w64 (((8+o:Nat):Int) - 8)=(o:Int):=by rw [w64_id (by omega)];omega
    simp only [Tr.rB,Tr.rR,Tr.rT,Tr.run_csl,Tr.run_csr,zE,d1,d2,d3,e1,zC,zc]
    rfl
   ·have d1:decide (((31+o:Nat):Int)<2)=false:=zF (by omega)
    have d2:decide (((31+o:Nat):Int)>=8)=true:=zT (by omega)
    have d3:decide (((31+o:Nat):Int)<=12)=false:=zF (by omega)
    have d4:decide (((31+o:Nat):Int)>=32)=true:=zT (by omega)
    have d5:decide (((31+o:Nat):Int)<=63)=true:=zT (by omega)
    have e1:w64 (((31+o:Nat):Int) - 31)=(o:Int):=by rw [w64_id (by omega)];omega
    simp only [Tr.rB,Tr.rR,Tr.rT,Tr.run_csl,Tr.run_csr,zE,d1,d2,d3,d4,d5,e1,zC,zc]
    rfl)).trans ?_
 rw [Tr.run_csl,Tr.rB]
 dsimp only
 rw [hand,h1]
 refine (bindT (a:=Sum.inl (false,(X.1,X.2),(k:Int),(o:Int),0,0,0,0,0)) (by
  rw [Tr.rR,show (((1:Nat):Int) == 1)=true from rfl,zC,Tr.rB]
  refine (bindT h3).trans ?_
  dsimp only
  rw [Tr.rR,show (e != 0)=true from bne_iff_ne.2 he];rfl)).trans ?_
 rfl
theorem head_typ (a W block T v:Nat) (row:List UInt8) (hv:v<256) (hT:v / 2=T) (hbad:(2<=T/\T<8)\/(13<=T/\T<32)\/64<=T) (hg:LQ.Get 8 (a:Int) row=some (((v:Int),0),((a+8:Nat):Int),row)) :
  ∃ d Y,LQ.head ((block:Int),(W:Int)) (a:Int) row=some ((d,false),Y):=by
 have hdiv:w64 (((v:Nat):Int) / 2)=(T:Int):=by rw [w64_id (by omega)];omega
 have d1:decide ((T:Int)<2)=false:=zF (by omega)
 refine ⟨((0:Int),(0:Int),0,0,0,[],(0,0,[],[],()),()),(((a+8:Nat):Int),row),?_⟩
 unfold LQ.head LQ.head.t
 dsimp only
 rw [Tr.rB]
 refine (bindT hg).trans ?_
 dsimp only
 rw [Tr.rR,show ((0:Int) != 0)=false from rfl,zc,Tr.rB,hdiv]
 refine (bindT (a:=Sum.inr (false,(((a+8:Nat):Int),row),0,0,0,0,0,0,0)) (by
  rcases hbad with h|h|h
  ·have d2:decide ((T:Int)>=8)=false:=zF (by omega)
   have d4:decide ((T:Int)>=32)=false:=zF (by omega)
   simp only [Tr.rB,Tr.rR,Tr.rT,Tr.run_csl,Tr.run_csr,zE,d1,d2,d4,zC,zc]
  ·have d2:decide ((T:Int)>=8)=true:=zT (by omega)
   have d3:decide ((T:Int)<=12)=false:=zF (by omega)
   have d4:decide ((T:Int)>=32)=false:=zF (by omega)
   simp only [Tr.rB,Tr.rR,Tr.rT,Tr.run_csl,Tr.run_csr,zE,d1,d2,d3,d4,zC,zc]
  ·have d2:decide ((T:Int)>=8)=true:=zT (by omega)
   have d3:decide ((T:Int)<=12)=false:=zF (by omega)
   have d4:decide ((T:Int)>=32)=true:=zT (by omega)
   have d5:decide ((T:Int)<=63)=false:=zF (by omega)
   simp only [Tr.rB,Tr.rR,Tr.rT,Tr.run_csl,Tr.run_csr,zE,d1,d2,d3,d4,d5,zC,zc])).trans ?_
 rfl
theorem head_dec (all:List Bool) (a W n:Nat) (h8:all.length % 8=0) (ha:a<=all.length) (hb:all.length<=281474976710656) :
  (∃ s:Sb,s.pr=0/\s.sf=0/\s.cs=[]/\HdOK s W n/\Bat all a (bitsOf s.typ 7++wsBits s.wst)/\LQ.head ((n:Int),(W:Int)) (a:Int) (pk all)=some ((((s.k:Int),(s.o:Int),(s.wst:Int),0,0,[],(0,0,[],[],()),()),true),((a+(8+s.wst):Nat):Int),pk all))\/∃ d X,LQ.head ((n:Int),(W:Int)) (a:Int) (pk all)=some ((d,false),X):=by
 rcases Get_dec all a 8 h8 ha (by decide) hb with ⟨mid,m1,m2,m3⟩|⟨_,m3⟩
 rotate_left
 ·right
  refine ⟨((0:Int),(0:Int),0,0,0,[],(0,0,[],[],()),()),((a:Int),pk all),?_⟩
  unfold LQ.head LQ.head.t
  dsimp only
  rw [Tr.rB]
  refine (bindT m3).trans ?_
  rfl
 have hv:=valB_lt mid
 rw [m1] at hv
 have hm8:=bits8 mid m1
 have hle:=m2.le
 rw [m1] at hle
 rcases typ_cases (valB mid / 2) (by omega) with ⟨k,o,⟨k3,low,fix,lpc⟩,hT⟩|hbad
 rotate_left
 ·exact .inr (head_typ a W n _ (valB mid) (pk all) (by omega) rfl hbad m3)
 have htv:(k<2/\o=0/\valB mid / 2=k)\/(k=2/\o<=4/\valB mid / 2=8+o)\/(k=3/\1<=o/\o<=32/\valB mid / 2=31+o):=by
  by_cases h2:k<2
  ·rw [if_pos h2] at hT;exact .inl ⟨h2,low h2,hT.symm⟩
  ·rw [if_neg h2] at hT
   by_cases h3:k=2
   ·rw [if_pos h3] at hT;exact .inr (.inl ⟨h3,fix h3,hT.symm⟩)
   ·rw [if_neg h3] at hT
    have h3':k=3:=by omega
    exact .inr (.inr ⟨h3',(lpc h3').1,(lpc h3').2,hT.symm⟩)
 have hws:(∃ wst pos,wst<=20000000/\pos=a+(8+wst)/\Bat all a (bitsOf (valB mid / 2) 7++wsBits wst)/\((valB mid % 2=0/\wst=0/\pos=a+8)\/(valB mid % 2=1/\1<=wst/\LQ.UnaryR ((a+8:Nat):Int) (pk all)=some ((((wst - 1:Nat):Int),0),(pos:Int),pk all))))\/∃ d Y,LQ.head ((n:Int),(W:Int)) (a:Int) (pk all)=some ((d,false),Y):=by
  rcases Nat.mod_two_eq_zero_or_one (valB mid) with h0|h1
  ·left
   refine ⟨0,a+8,by omega,rfl,?_,.inl ⟨h0,rfl,rfl⟩⟩
   rw [hm8] at m2
   rw [h0] at m2
   exact m2
  ·rcases UnaryR_dec all (a+8) h8 hle hb with ⟨q,q1,q2,q3⟩|⟨u,e,e0,q3⟩
   ·left
    refine ⟨q+1,a+8+(q+1),by omega,by omega,?_,.inr ⟨h1,by omega,by rw [Nat.add_sub_cancel];exact q3⟩⟩
    have e:bitsOf (valB mid / 2) 7++wsBits (q+1)=mid++unaB q:=by
     have e1:wsBits (q+1)=[true]++unaB q:=by
      unfold wsBits
      rw [show (q+1 == 0)=false from rfl,zc,Nat.add_sub_cancel]
      rfl
     rw [e1,←List.append_assoc]
     congr 1
     have h2:(valB mid % 2 == 1)=true:=by rw [h1];rfl
     rw [h2] at hm8
     exact hm8.symm
    rw [e]
    exact Bat.join m2 (by rw [m1];exact q2)
   ·exact .inr (head_una a W n _ (valB mid) k o (pk all) u e _ (by omega) rfl htv m3 h1 e0 q3)
 rcases hws with ⟨wst,pos,w1,w2,w3,w4⟩|h
 rotate_left
 ·exact .inr h
 by_cases hc:wst<W/\o<=n
 ·left
  have hh:=head_end a W n _ (valB mid) k o wst pos (pk all) true (by omega) rfl htv m3 w1 w4 (zT hc).symm
  have hty:(⟨k,o,wst,0,0,0,0,[],[],[]⟩:Sb).typ=valB mid / 2:=hT
  refine ⟨⟨k,o,wst,0,0,0,0,[],[],[]⟩,rfl,rfl,rfl,⟨k3,low,fix,lpc,hc.2,hc.1⟩,by rw [hty];exact w3,?_⟩
  rw [←w2];exact hh
 ·right
  exact ⟨_,_,head_end a W n _ (valB mid) k o wst pos (pk all) false (by omega) rfl htv m3 w1 w4 (zF hc).symm⟩
end
section
set_option maxRecDepth 100000
open Go.LM
def restV (cs:List Int) (sh:Nat):List Int->List Int->List Int
 |l,[]=>l
 |l,r::rs=>restV cs sh (l++[w64 (r+predV cs sh l)]) rs
theorem restV_pre (cs:List Int) (sh:Nat):∀ (rs l:List Int),∃ t,restV cs sh l rs=l++t/\t.length=rs.length
 | [],l=>⟨[],by simp [restV],rfl⟩
 |r::rs,l=>by
  obtain ⟨t,h1,h2⟩:=restV_pre cs sh rs (l++[w64 (r+predV cs sh l)])
  exact ⟨w64 (r+predV cs sh l)::t,by rw [restV,h1,List.append_assoc];rfl,by simp [h2]⟩
theorem restV_range (cs:List Int) (sh:Nat):∀ (rs l:List Int),(∀ x∈l,inR x)->∀ x∈restV cs sh l rs,inR x
 | [],l,h=>h
 |r::rs,l,h=>by
  rw [restV]
  refine restV_range cs sh rs _ fun x hx=>?_
  rcases List.mem_append.1 hx with h' | h'
  ·exact h x h'
  ·rw [List.mem_singleton.1 h']
   exact w64_range _
theorem left_rest (cs:List Int) (sh:Nat):∀ (rs l:List Int),(∀ x∈rs,inR x)->leftV cs sh l.length (restV cs sh l rs)=rs
 | [],l,_=>by
  unfold leftV;rw [restV,Nat.sub_self];rfl
 |r::rs,l,h=>by
  have ih:=left_rest cs sh rs (l++[w64 (r+predV cs sh l)]) (fun x hx=>h x (List.mem_cons_of_mem _ hx))
  obtain ⟨t,h1,h2⟩:=restV_pre cs sh rs (l++[w64 (r+predV cs sh l)])
  rw [restV]
  generalize hm:restV cs sh (l++[w64 (r+predV cs sh l)]) rs=mm at ih h1
  have hlen:mm.length=l.length+1+rs.length:=by rw [h1];simp [h2];omega
  unfold leftV at ih ⊢
  rw [zL,List.length_singleton] at ih
  have e1:mm.length - l.length=rs.length+1:=by omega
  have e2:mm.length - (l.length+1)=rs.length:=by omega
  rw [e2] at ih
  rw [e1,List.range_succ_eq_map,List.map_cons,List.map_map]
  have hr0:mm.getD l.length 0=w64 (r+predV cs sh l):=by
   rw [h1,List.getD_eq_getElem?_getD,List.getElem?_append_left (by simp),List.getElem?_append_right (Nat.le_refl _),Nat.sub_self];rfl
  have ht0:mm.take l.length=l:=by rw [h1,List.append_assoc,List.take_left]
  congr 1
  ·show w64 (mm.getD (l.length+0) 0 - predV cs sh (mm.take (l.length+0)))=r
   rw [Nat.add_zero,hr0,ht0]
   have hb:=h r List.mem_cons_self
   have:=w64_back r (-(predV cs sh l)) hb
   rw [Int.sub_neg] at this
   rw [Int.sub_eq_add_neg]
   exact this
  ·refine Eq.trans ?_ ih
   apply List.map_congr_left
   intro j hj
   show w64 (mm.getD (l.length+(j+1)) 0 - predV cs sh (mm.take (l.length+(j+1))))=_
   rw [show l.length+(j+1)=l.length+1+j by omega]
theorem ConG_dec (s:List Int) (W k o pr sf m ro:Int) (wst w:Nat) (cs ps es:List Int) (hw:W=((wst+w:Nat):Int)) (h1:1<=w) (h2:w<=33) (hwst:wst<=33) (hr:∀ n∈s,inR n) (hl:s.length<=1048576) :
  (∀ n∈s,fitsW w n)\/LQ.ConG s W k o (wst:Int) pr sf cs m ro ps es=some (true,W,k,o,(wst:Int),pr,sf,cs,m,ro,ps,es):=by
 have hww:w64 (W - (wst:Int))=(w:Int):=by rw [hw,w64_id (by omega)];omega
 have hlo:=loopO_pq (f:=fun (d:Int×Int×Int×Int×Int×Int×Int×List Int×Int×Int×List Int×List Int)=>(LQ.IdxG.l0 s d.1 d.2.1 d.2.2.1 d.2.2.2.1 d.2.2.2.2.1 d.2.2.2.2.2.1 d.2.2.2.2.2.2.1 d.2.2.2.2.2.2.2.1 d.2.2.2.2.2.2.2.2.1 d.2.2.2.2.2.2.2.2.2.1 d.2.2.2.2.2.2.2.2.2.2.1 d.2.2.2.2.2.2.2.2.2.2.2).run)
  (fun i d=>(∀ x,x<i->fitsW w (s.getD x 0))/\d=((i:Int),W,k,o,(wst:Int),pr,sf,cs,m,ro,ps,es))
  (fun r=>(∀ n∈s,fitsW w n)\/∃ i:Nat,r=.inl ((i:Int),W,k,o,(wst:Int),pr,sf,cs,m,ro,ps,es)) s.length (fun i hi d hd=>by
   obtain ⟨h3,rfl⟩:=hd
   have hdc:decide ((i:Int)<Int.ofNat s.length)=true:=zT (by simp only [zN];omega)
   have hn:(0:Int)<=(i:Int)/\(i:Int)<Int.ofNat s.length:=by simp only [zN];omega
   have hi1:w64 ((i:Int)+1)=((i+1:Nat):Int):=by rw [w64_id (by omega)];omega
   show (∃ d',(LQ.IdxG.l0 s (i:Int) W k o (wst:Int) pr sf cs m ro ps es).run=some (.inl d')/\_)\/∃ r,(LQ.IdxG.l0 s (i:Int) W k o (wst:Int) pr sf cs m ro ps es).run=some (.inr r)/\_
   rcases sfits_dec (s.getD i 0) w h1 (by omega) (hr _ (by rw [getD_lt _ _ hi];exact List.getElem_mem hi)) with ⟨a,b⟩|b
   ·left
    refine ⟨(((i+1:Nat):Int),W,k,o,(wst:Int),pr,sf,cs,m,ro,ps,es),?_,?_,rfl⟩
    ·unfold LQ.IdxG.l0 LQ.dec1 LQ.dec1.t
     rw [Tr.rR,hdc,zC,Tr.rN _ hn,Tr.rB,Int.toNat_natCast,Tr.rB,hww,b]
     rw [zE,Tr.rT,zE,Bool.not_true,Tr.rR,zc,Tr.rT,hi1]
    ·intro x hx
     by_cases e:x=i
     ·rw [e];exact a
     ·exact h3 x (by omega)
   ·right
    refine ⟨.inl ((i:Int),W,k,o,(wst:Int),pr,sf,cs,m,ro,ps,es),?_,.inr ⟨i,rfl⟩⟩
    unfold LQ.IdxG.l0 LQ.dec1 LQ.dec1.t
    rw [Tr.rR,hdc,zC,Tr.rN _ hn,Tr.rB,Int.toNat_natCast,Tr.rB,hww,b]
    rfl) (fun d hd=>by
   obtain ⟨h3,rfl⟩:=hd
   refine ⟨.inr (W,k,o,(wst:Int),pr,sf,cs,m,ro,ps,es),?_,.inl ?_⟩
   ·show (LQ.IdxG.l0 s (s.length:Int) W k o (wst:Int) pr sf cs m ro ps es).run=_
    unfold LQ.IdxG.l0
    rw [Tr.rR,zF (by simp only [zN];omega),zc,Tr.rT]
   ·intro n hn
    obtain ⟨x,hx,rfl⟩:=List.getElem_of_mem hn
    have:=h3 x hx
    rwa [getD_lt _ _ hx] at this) ((0:Int),W,k,o,(wst:Int),pr,sf,cs,m,ro,ps,es) ⟨fun x hx=>by omega,rfl⟩
 obtain ⟨r,r1,r2⟩:=hlo
 rcases r2 with h|⟨i,rfl⟩
 ·exact .inl h
 ·right
  unfold LQ.ConG LQ.ConG.t LQ.IdxG LQ.IdxG.t
  rw [Tr.rB,Tr.rB]
  refine (congrArg (fun x=>Option.bind x _) (bindT r1)).trans ?_
  show some (decide (((i:Nat):Int)>=0),_)=_
  rw [zT (by omega)]
end
section
set_option maxRecDepth 100000
open Go.LM
theorem ri_range {m ro:Nat} {ps es:List Int} {block o:Nat} {l:List Int} (h:RiOK m ro ps es block o l):∀ x∈l,inR x:=by
 have hll:l.length=2 ^ ro*(block / 2 ^ ro) - o:=by rw [Nat.mul_comm,h.dv,h.ll]
 have key:∀ i,i<=2 ^ ro->∀ x∈l.take (i*(block / 2 ^ ro) - o),inR x:=by
  intro i
  induction i with
  |zero=>intro _ x hx;rw [Nat.zero_mul,Nat.zero_sub,List.take_zero] at hx;cases hx
  |succ i ih=>
   intro hi x hx
   rw [cutN_take] at hx
   rcases List.mem_append.1 hx with h' | h'
   ·exact ih (by omega) x h'
   ·exact ((h.pt i (by omega)).it x h').1
 intro x hx
 refine key (2 ^ ro) (Nat.le_refl _) x ?_
 rw [List.take_of_length_le (by omega)];exact hx
structure BdOK (s:Sb) (n:Nat) (mm:List Int):Prop where
 ml:mm.length=n
 rg:∀ x∈mm,inR x
 low:s.k<2->s.o=0/\s.m=0/\s.ro=0/\s.ps=[]/\s.es=[]
 flat:s.k<=2->s.pr=0/\s.sf=0/\s.cs=[]
 con:s.k=0->∀ x∈mm,x=mm.getD 0 0
 lpc:s.k=3->1<=s.o/\s.o<=32/\1<=s.pr/\s.pr<=15/\s.sf<=15/\s.cs.length=s.o/\∀ c∈s.cs,fitsW s.pr c
 ri:2<=s.k->RiOK s.m s.ro s.ps s.es n s.o (s.res mm)
def bdB (s:Sb) (W n:Nat) (mm:List Int):List Bool:=sgBits W (mm.take (s.warmN n))++(s.lpcB++s.resB n mm)
theorem body_dec (all:List Bool) (a W n k o wst:Nat) (h8:all.length % 8=0) (ha:a<=all.length) (h1:1<=W) (h2:W<=33) (n1:1<=n) (n2:n<=65535) (k3:k<=3) (low:k<2->o=0) (fix:k=2->o<=4) (lpc:k=3->1<=o/\o<=32) (ob:o<=n) (hb:all.length<=281474976710656) :
  (∃ (s:Sb) (mm:List Int),s.k=k/\s.o=o/\s.wst=wst/\BdOK s n mm/\Bat all a (bdB s W n mm)/\LQ.bodyF ((n:Int),(W:Int)) ((a:Int),pk all) (k:Int) (o:Int) (wst:Int) 0 0 [] 0 0 [] []=some ((mm,true),(((a+(bdB s W n mm).length:Nat):Int),pk all),(k:Int),(o:Int),(wst:Int),(s.pr:Int),(s.sf:Int),s.cs,(s.m:Int),(s.ro:Int),s.ps,s.es))\/∃ l q,LQ.bodyF ((n:Int),(W:Int)) ((a:Int),pk all) (k:Int) (o:Int) (wst:Int) 0 0 [] 0 0 [] []=some ((l,false),q):=by
 generalize hwv:Sb.warmN ⟨k,o,wst,0,0,0,0,[],[],[]⟩ n=wn
 have hwn:wn<=n:=by
  rw [←hwv]
  unfold Sb.warmN
  simp only
  split
  ·exact n1
  ·split
   ·exact Nat.le_refl _
   ·exact ob
 have hwarm:LQ.warm ((k:Int),(o:Int),(wst:Int),0,0,[],(0,0,[],[],()),()) (n:Int)=some ((wn:Nat):Int):=by
  rw [←hwv]
  unfold LQ.warm LQ.warm.t Sb.warmN
  dsimp only
  by_cases h0:k=0
  ·rw [if_pos h0,Tr.rR,show ((k:Int) == 0)=true from beq_iff_eq.2 (by omega),zC,Tr.rT];rfl
  ·rw [if_neg h0,Tr.rR,show ((k:Int) == 0)=false from beq_eq_false_iff_ne.2 (by omega),zc,Tr.rR]
   by_cases h1:k=1
   ·rw [if_pos h1,show ((k:Int) == 1)=true from beq_iff_eq.2 (by omega),zC,Tr.rT]
   ·rw [if_neg h1,show ((k:Int) == 1)=false from beq_eq_false_iff_ne.2 (by omega),zc,Tr.rT]
 have hk1:((k:Int) == 1)=decide (k=1):=by rw [Bool.eq_iff_iff,beq_iff_eq,decide_eq_true_eq];omega
 have hk0:((k:Int) == 0)=decide (k=0):=by rw [Bool.eq_iff_iff,beq_iff_eq,decide_eq_true_eq];omega
 have hk3:((k:Int) == 3)=decide (k=3):=by rw [Bool.eq_iff_iff,beq_iff_eq,decide_eq_true_eq];omega
 have hk2:((k:Int) == 2)=decide (k=2):=by rw [Bool.eq_iff_iff,beq_iff_eq,decide_eq_true_eq];omega
 rcases numbers_dec all a wn W h8 ha h1 (by omega) (by omega) hb with ⟨l,l1,l2,l3,hnum⟩|⟨X,hnum⟩
 rotate_left
 ·right
  refine ⟨[],((X.1,X.2),(k:Int),(o:Int),(wst:Int),0,0,[],0,0,[],[]),?_⟩
  unfold LQ.bodyF LQ.bodyF.t
  dsimp only
  rw [Tr.rB]
  refine (bindT hwarm).trans ?_
  rw [Tr.rB]
  refine (bindT hnum).trans ?_
  rfl
 have hle:=l3.le
 rw [sgBits_len,l1] at hle
 have hlr:∀ x∈l,inR x:=fun x hx=>fitsW_inR W x (by omega) (l2 x hx)
 by_cases e1:k=1
 ·subst e1
  left
  have o0:=low (by decide)
  subst o0
  have hwn1:wn=n:=by rw [←hwv];rfl
  subst hwn1
  have hbd:bdB ⟨1,0,wst,0,0,0,0,[],[],[]⟩ W wn l=sgBits W l:=by
   unfold bdB
   rw [show Sb.warmN ⟨1,0,wst,0,0,0,0,[],[],[]⟩ wn=wn from rfl,List.take_of_length_le (by omega)]
   show sgBits W l++([]++[])=_
   simp
  refine ⟨⟨1,0,wst,0,0,0,0,[],[],[]⟩,l,rfl,rfl,rfl,⟨l1,hlr,fun _=>⟨rfl,rfl,rfl,rfl,rfl⟩,fun _=>⟨rfl,rfl,rfl⟩,(fun h=>by cases h),(fun h=>by cases h),(fun h=>absurd h (show ¬ 2<=1 by decide))⟩,by rw [hbd];exact l3,?_⟩
  rw [hbd,sgBits_len,l1]
  unfold LQ.bodyF LQ.bodyF.t
  dsimp only
  rw [Tr.rB]
  refine (bindT hwarm).trans ?_
  rw [Tr.rB]
  refine (bindT hnum).trans ?_
  rfl
 by_cases e0:k=0
 ·subst e0
  left
  have o0:=low (by decide)
  subst o0
  have hwn1:wn=1:=by rw [←hwv];rfl
  subst hwn1
  obtain ⟨x,rfl⟩:∃ x,l=[x]:=by
   match l,l1 with
   | [x],_=>exact ⟨x,rfl⟩
  have hrp:=RepI_eq x n n1 n2
  have htk:(List.replicate n x).take 1=[x]:=by rw [List.take_replicate,Nat.min_eq_left n1];rfl
  have hbd:bdB ⟨0,0,wst,0,0,0,0,[],[],[]⟩ W n (List.replicate n x)=sgBits W [x]:=by
   unfold bdB
   rw [show Sb.warmN ⟨0,0,wst,0,0,0,0,[],[],[]⟩ n=1 from rfl,htk]
   show sgBits W [x]++([]++[])=_
   simp
  refine ⟨⟨0,0,wst,0,0,0,0,[],[],[]⟩,List.replicate n x,rfl,rfl,rfl,⟨by simp,fun y hy=>by rw [List.eq_of_mem_replicate hy];exact hlr x List.mem_cons_self,fun _=>⟨rfl,rfl,rfl,rfl,rfl⟩,fun _=>⟨rfl,rfl,rfl⟩,fun _ y hy=>?_,(fun h=>by cases h),(fun h=>absurd h (show ¬ 2<=0 by decide))⟩,by rw [hbd];exact l3,?_⟩
  ·rw [List.eq_of_mem_replicate hy,getD_lt _ _ (by rw [List.length_replicate];omega)];simp
  rw [hbd,sgBits_len]
  unfold LQ.bodyF LQ.bodyF.t
  dsimp only
  rw [Tr.rB]
  refine (bindT hwarm).trans ?_
  rw [Tr.rB]
  refine (bindT hnum).trans ?_
  rw [Tr.rB]
  refine (bindT (a:=(false,(((a+1*W:Nat):Int),pk all),(0:Int),(0:Int),(wst:Int),0,0,[],0,0,[],[])) (by
   rw [Bool.not_true,Tr.rR,zc,Tr.rT];rfl)).trans ?_
  dsimp only
  rw [Tr.rR,zc,Tr.rR,show ((0:Int) == 0)=true from rfl,zC,Tr.rB]
  refine (bindT hrp).trans ?_
  rfl
 have hk23:k=2\/k=3:=by omega
 have hwno:wn=o:=by
  rw [←hwv];unfold Sb.warmN;simp only
  rw [if_neg e0,if_neg e1]
 subst hwno
 have hco:(∃ (pr sf:Nat) (cs:List Int),(k=2->pr=0/\sf=0/\cs=[])/\(k=3->1<=pr/\pr<=15/\sf<=15/\cs.length=wn/\∀ c∈cs,fitsW pr c)/\Bat all (a+wn*W) (Sb.lpcB ⟨k,wn,wst,pr,sf,0,0,cs,[],[]⟩) /\
   (Tr.br ((k:Int) == 3) (Tr.bind (Bool×(Int×List UInt8)×Int×Int×Int×Int×Int×List Int×Int×Int×List Int×List Int) (LQ.coefs (((a+wn*W:Nat):Int),pk all) (k:Int) (wn:Int) (wst:Int) 0 0 [] 0 0 [] []) (false,(0,[]),0,0,0,0,0,[],0,0,[],[]) fun r4=>Tr.ret (!r4.1,(r4.2.1.1,r4.2.1.2),r4.2.2.1,r4.2.2.2.1,r4.2.2.2.2.1,r4.2.2.2.2.2.1,r4.2.2.2.2.2.2.1,r4.2.2.2.2.2.2.2.1,r4.2.2.2.2.2.2.2.2.1,r4.2.2.2.2.2.2.2.2.2.1,r4.2.2.2.2.2.2.2.2.2.2.1,r4.2.2.2.2.2.2.2.2.2.2.2)) (Tr.ret (false,(((a+wn*W:Nat):Int),pk all),(k:Int),(wn:Int),(wst:Int),0,0,[],0,0,[],[]))).run=some (false,(((a+wn*W+(Sb.lpcB ⟨k,wn,wst,pr,sf,0,0,cs,[],[]⟩).length:Nat):Int),pk all),(k:Int),(wn:Int),(wst:Int),(pr:Int),(sf:Int),cs,0,0,[],[])) \/
   ∃ X x y z,(Tr.br ((k:Int) == 3) (Tr.bind (Bool×(Int×List UInt8)×Int×Int×Int×Int×Int×List Int×Int×Int×List Int×List Int) (LQ.coefs (((a+wn*W:Nat):Int),pk all) (k:Int) (wn:Int) (wst:Int) 0 0 [] 0 0 [] []) (false,(0,[]),0,0,0,0,0,[],0,0,[],[]) fun r4=>Tr.ret (!r4.1,(r4.2.1.1,r4.2.1.2),r4.2.2.1,r4.2.2.2.1,r4.2.2.2.2.1,r4.2.2.2.2.2.1,r4.2.2.2.2.2.2.1,r4.2.2.2.2.2.2.2.1,r4.2.2.2.2.2.2.2.2.1,r4.2.2.2.2.2.2.2.2.2.1,r4.2.2.2.2.2.2.2.2.2.2.1,r4.2.2.2.2.2.2.2.2.2.2.2)) (Tr.ret (false,(((a+wn*W:Nat):Int),pk all),(k:Int),(wn:Int),(wst:Int),0,0,[],0,0,[],[]))).run=some (true,X,(k:Int),(wn:Int),(wst:Int),x,y,z,0,0,[],[]):=by
  rcases hk23 with rfl|rfl
  ·left
   refine ⟨0,0,[],fun _=>⟨rfl,rfl,rfl⟩,(fun h=>by cases h),Bat.nil hle,?_⟩
   rw [Tr.rR,show (((2:Nat):Int) == 3)=false from rfl,zc,Tr.rT]
   rfl
  ·rcases coefs_dec all (a+wn*W) wn ((3:Nat):Int) (wst:Int) 0 0 0 0 [] [] [] h8 hle (lpc rfl).2 hb with ⟨pr,sf,cs,p1,p2,p3,p4,p5,p6,p7⟩|⟨X,x,y,z,p7⟩
   ·left
    have hlb:Sb.lpcB ⟨3,wn,wst,pr,sf,0,0,cs,[],[]⟩=bitsOf (pr - 1) 4++(bitsOf sf 5++sgBits pr cs):=rfl
    refine ⟨pr,sf,cs,(fun h=>by cases h),fun _=>⟨p1,p2,p3,p4,p5⟩,by rw [hlb];exact p6,?_⟩
    rw [Tr.rR,show (((3:Nat):Int) == 3)=true from rfl,zC,Tr.rB]
    refine (bindT p7).trans ?_
    rw [hlb,zL,zL,zG,zG,sgBits_len,p4,Tr.rT]
    rw [show a+wn*W+(4+(5+wn*pr))=a+wn*W+9+wn*pr by omega]
    rfl
   ·right
    refine ⟨(X.1,X.2),x,y,z,?_⟩
    rw [Tr.rR,show (((3:Nat):Int) == 3)=true from rfl,zC,Tr.rB]
    refine (bindT p7).trans ?_
    rfl
 rcases hco with ⟨pr,sf,cs,f2,f3,hbl,hcr⟩|⟨X,x,y,z,hcr⟩
 rotate_left
 ·right
  refine ⟨[],(X,(k:Int),(wn:Int),(wst:Int),x,y,z,0,0,[],[]),?_⟩
  unfold LQ.bodyF LQ.bodyF.t
  dsimp only
  rw [Tr.rB]
  refine (bindT hwarm).trans ?_
  rw [Tr.rB]
  refine (bindT hnum).trans ?_
  rw [Tr.rB]
  refine (bindT (a:=(false,(((a+wn*W:Nat):Int),pk all),(k:Int),(wn:Int),(wst:Int),0,0,[],0,0,[],[])) (by
   rw [Bool.not_true,Tr.rR,zc,Tr.rT,hk1,zF e1])).trans ?_
  dsimp only
  rw [Tr.rR,zc,Tr.rR,hk0,zF e0,zc,Tr.rB]
  refine (bindT hcr).trans ?_
  rfl
 have hle2:=hbl.le
 have ho32:wn<=32:=by
  rcases hk23 with h|h
  ·have:=fix h;omega
  ·exact (lpc h).2
 rcases rDec_dec all (a+wn*W+(Sb.lpcB ⟨k,wn,wst,pr,sf,0,0,cs,[],[]⟩).length) n wn h8 hle2 n1 n2 ho32 ob hb with ⟨m,ro,ps,es,res,ri,rb,hrd⟩|⟨l',q,e,X,ee,hrd⟩
 rotate_left
 ·right
  refine ⟨[],((X.1,X.2),(k:Int),(wn:Int),(wst:Int),(pr:Int),(sf:Int),cs,0,0,[],[]),?_⟩
  unfold LQ.bodyF LQ.bodyF.t
  dsimp only
  rw [Tr.rB]
  refine (bindT hwarm).trans ?_
  rw [Tr.rB]
  refine (bindT hnum).trans ?_
  rw [Tr.rB]
  refine (bindT (a:=(false,(((a+wn*W:Nat):Int),pk all),(k:Int),(wn:Int),(wst:Int),0,0,[],0,0,[],[])) (by
   rw [Bool.not_true,Tr.rR,zc,Tr.rT,hk1,zF e1])).trans ?_
  dsimp only
  rw [Tr.rR,zc,Tr.rR,hk0,zF e0,zc,Tr.rB]
  refine (bindT hcr).trans ?_
  dsimp only
  rw [Tr.rR,zc,Tr.rB]
  refine (bindT hrd).trans ?_
  rw [Tr.rR,show (e != 0)=true from bne_iff_ne.2 ee];rfl
 left
 have hrr:=ri_range ri
 have hrl:=ri.ll
 generalize hC:(if k=2 then fixedC wn else cs)=C
 generalize hS:(if k=2 then 0 else sf)=S
 have hCl:C.length<=wn:=by
  rw [←hC]
  rcases hk23 with h|h
  ·rw [if_pos h,fixedC_len wn (fix h)];exact Nat.le_refl _
  ·rw [if_neg (by omega),(f3 h).2.2.2.1];exact Nat.le_refl _
 obtain ⟨t,t1,t2⟩:=restV_pre C S res l
 have hml:(restV C S l res).length=n:=by rw [t1,zL,l1,t2,hrl];omega
 have hmt:(restV C S l res).take wn=l:=by rw [t1,←l1,List.take_left]
 have hmr:=restV_range C S res l hlr
 have hlf:leftV C S wn (restV C S l res)=res:=by rw [←l1];exact left_rest C S res l hrr
 generalize hmm:restV C S l res=mm at *
 have hres:Sb.res ⟨k,wn,wst,pr,sf,m,ro,cs,ps,es⟩ mm=res:=by
  unfold Sb.res
  simp only
  by_cases h:k=2
  ·rw [if_pos h] at hC hS ⊢
   rw [hC,hS];exact hlf
  ·rw [if_neg h] at hC hS ⊢
   rw [hC,hS];exact hlf
 have hwN:Sb.warmN ⟨k,wn,wst,pr,sf,m,ro,cs,ps,es⟩ n=wn:=by
  unfold Sb.warmN;simp only
  rw [if_neg e0,if_neg e1]
 have hrb:Sb.resB ⟨k,wn,wst,pr,sf,m,ro,cs,ps,es⟩ n mm=riceB m ro ps es (n / 2 ^ ro) wn res:=by
  unfold Sb.resB
  simp only
  rw [if_neg (by omega),hres]
 have hlp:Sb.lpcB ⟨k,wn,wst,pr,sf,m,ro,cs,ps,es⟩=Sb.lpcB ⟨k,wn,wst,pr,sf,0,0,cs,[],[]⟩:=rfl
 have hbd:bdB ⟨k,wn,wst,pr,sf,m,ro,cs,ps,es⟩ W n mm=sgBits W l++(Sb.lpcB ⟨k,wn,wst,pr,sf,0,0,cs,[],[]⟩++riceB m ro ps es (n / 2 ^ ro) wn res):=by
  unfold bdB
  rw [hwN,hmt,hrb,hlp]
 refine ⟨⟨k,wn,wst,pr,sf,m,ro,cs,ps,es⟩,mm,rfl,rfl,rfl,⟨hml,hmr,fun h=>absurd h (by show ¬ k<2;omega),fun h=>f2 (by have h:k<=2:=h;omega),fun h=>absurd h e0,fun h=>?_,fun _=>by rw [hres];exact ri⟩,?_,?_⟩
 ·obtain ⟨g1,g2,g3,g4,g5⟩:=f3 h
  exact ⟨(lpc h).1,(lpc h).2,g1,g2,g3,g4,g5⟩
 ·rw [hbd]
  exact Bat.join l3 (by rw [sgBits_len,l1];exact Bat.join hbl rb)
 ·unfold LQ.bodyF LQ.bodyF.t
  dsimp only
  rw [Tr.rB]
  refine (bindT hwarm).trans ?_
  rw [Tr.rB]
  refine (bindT hnum).trans ?_
  rw [Tr.rB]
  refine (bindT (a:=(false,(((a+wn*W:Nat):Int),pk all),(k:Int),(wn:Int),(wst:Int),0,0,[],0,0,[],[])) (by
   rw [Bool.not_true,Tr.rR,zc,Tr.rT,hk1,zF e1])).trans ?_
  dsimp only
  rw [Tr.rR,zc,Tr.rR,hk0,zF e0,zc,Tr.rB]
  refine (bindT hcr).trans ?_
  dsimp only
  rw [Tr.rR,zc,Tr.rB]
  refine (bindT hrd).trans ?_
  dsimp only
  rw [Tr.rR,show ((0:Int) != 0)=false from rfl,zc,Tr.rB]
  have hlen:a+wn*W+(Sb.lpcB ⟨k,wn,wst,pr,sf,0,0,cs,[],[]⟩).length+(riceB m ro ps es (n / 2 ^ ro) wn res).length=a+(bdB ⟨k,wn,wst,pr,sf,m,ro,cs,ps,es⟩ W n mm).length:=by
   rw [hbd,zL,zL,sgBits_len,l1];omega
  rw [hlen]
  refine (bindT (a:=(mm,(0:Int),(((a+(bdB ⟨k,wn,wst,pr,sf,m,ro,cs,ps,es⟩ W n mm).length:Nat):Int),pk all),(k:Int),(wn:Int),(wst:Int),(pr:Int),(sf:Int),cs,(m:Int),(ro:Int),ps,es)) (by
   rw [Tr.rR,hk2]
   rcases hk23 with h|h
   ·have hUf:=Unfixed_eq wn mm (fix h) (by omega) (by omega) hmr
    rw [if_pos h] at hC hS
    subst hC;subst hS
    rw [hmt,hlf] at hUf
    rw [zT h,zC,Tr.rB]
    refine (bindT hUf).trans ?_
    rfl
   ·obtain ⟨g1,g2,g3,g4,g5⟩:=f3 h
    have hUl:=Unlpc_eq cs mm sf (by have:=(lpc h).1;omega) (by omega) (by omega) (by omega) (by omega) hmr
    rw [if_neg (by omega)] at hC hS
    subst hC;subst hS
    rw [g4,hmt,hlf] at hUl
    rw [zF (by omega),zc,Tr.rB]
    refine (bindT hUl).trans ?_
    rfl)).trans ?_
  rfl
end
end Go.Proofs.YtedcnpankkaboaaGreat.Dg
