/- FgB: FgL FgM FgN FgO FgP FgQ FgR FgS FgT FgU. -/
import Derived.Test.YtedcnpankkaboaaGreatFgA
set_option linter.unusedSimpArgs false
set_option linter.unusedVariables false
namespace Go.Proofs.YtedcnpankkaboaaGreat.Dg
section
set_option maxRecDepth 10000
open Go.LM
structure Sb where
 (k o wst pr sf m ro:Nat)
 (cs ps es:List Int)
def Sb.D (s:Sb):SubD:=((s.k:Int),(s.o:Int),(s.wst:Int),(s.pr:Int),(s.sf:Int),s.cs,((s.m:Int),(s.ro:Int),s.ps,s.es,()),())
def mids (wst:Nat) (l:List Int):List Int:=l.map (fun n=>n / ((2 ^ wst:Nat):Int))
def Sb.res (s:Sb) (mm:List Int):List Int:=if s.k=2 then leftV (fixedC s.o) 0 s.o mm else leftV s.cs s.sf s.o mm
def Sb.warmN (s:Sb) (n:Nat):Nat:=if s.k=0 then 1 else if s.k=1 then n else s.o
def Sb.typ (s:Sb):Nat:=if s.k<2 then s.k else if s.k=2 then 8+s.o else 31+s.o
def Sb.lpcB (s:Sb):List Bool:=if s.k=3 then bitsOf (s.pr - 1) 4++(bitsOf s.sf 5++sgBits s.pr s.cs) else []
def Sb.resB (s:Sb) (n:Nat) (mm:List Int):List Bool:=if s.k<2 then [] else riceB s.m s.ro s.ps s.es (n / 2 ^ s.ro) s.o (s.res mm)
def Sb.bits (s:Sb) (W:Nat) (l:List Int):List Bool:=(bitsOf s.typ 7++wsBits s.wst)++(sgBits (W - s.wst) ((mids s.wst l).take (s.warmN l.length))++(s.lpcB++s.resB l.length (mids s.wst l)))
structure SbOK (s:Sb) (W:Nat) (l:List Int):Prop where
 b1:1<=l.length
 b2:l.length<=65535
 w1:1<=W
 w2:W<=33
 ws:s.wst<W
 dv:∀ n∈l,n / ((2 ^ s.wst:Nat):Int)*((2 ^ s.wst:Nat):Int)=n
 ft:∀ n∈l,fitsW W n
 k3:s.k<=3
 low:s.k<2->s.o=0/\s.m=0/\s.ro=0/\s.ps=[]/\s.es=[]
 flat:s.k<=2->s.pr=0/\s.sf=0/\s.cs=[]
 con:s.k=0->∀ n∈l,n=l.getD 0 0
 fix:s.k=2->s.o<=4
 lpc:s.k=3->1<=s.o/\s.o<=32/\1<=s.pr/\s.pr<=15/\s.sf<=15/\s.cs.length=s.o/\∀ c∈s.cs,fitsW s.pr c
 ob:s.o<=l.length
 ri:2<=s.k->RiOK s.m s.ro s.ps s.es l.length s.o (s.res (mids s.wst l))
 w31:s.wst<=31
theorem mids_len (wst:Nat) (l:List Int):(mids wst l).length=l.length:=List.length_map _
theorem div_fits (W wst:Nat) (n:Int) (h:wst<W) (hn:fitsW W n):fitsW (W - wst) (n / ((2 ^ wst:Nat):Int)):=by
 unfold fitsW at hn ⊢
 have e:2 ^ (W - 1)=2 ^ (W - wst - 1)*2 ^ wst:=by rw [←Nat.pow_add];congr 1;omega
 have hp:0<2 ^ wst:=Nat.pow_pos (by decide)
 rw [e] at hn
 generalize 2 ^ (W - wst - 1)=p at *
 generalize 2 ^ wst=q at *
 rw [Int.natCast_mul] at hn
 constructor
 ·rw [Int.le_ediv_iff_mul_le (by omega),Int.neg_mul];exact hn.1
 ·exact Int.ediv_lt_of_lt_mul (by omega) hn.2
theorem fitsW_inR (W:Nat) (n:Int) (h1:W<=64) (h:fitsW W n):inR n:=by
 have hp:2 ^ (W - 1)<=2 ^ 63:=Nat.pow_le_pow_right (by decide) (by omega)
 unfold fitsW at h
 unfold inR
 generalize 2 ^ (W - 1)=p at *
 omega
theorem mids_fits (W wst:Nat) (l:List Int) (h:wst<W) (hn:∀ n∈l,fitsW W n):∀ n∈mids wst l,fitsW (W - wst) n:=fun n hm=>by
 obtain ⟨x,hx,rfl⟩:=List.mem_map.1 hm
 exact div_fits W wst x h (hn x hx)
theorem head_eq (all:List Bool) (a W block:Nat) (s:Sb) (h:Bat all a (bitsOf s.typ 7++wsBits s.wst)) (hb:all.length<=281474976710656) (hw:s.wst<W) (hW:W<=33) (k3:s.k<=3) (low:s.k<2->s.o=0) (fix:s.k=2->s.o<=4) (lpc:s.k=3->1<=s.o/\s.o<=32) (ob:s.o<=block) :
  LQ.head ((block:Int),(W:Int)) (a:Int) (pk all)=some ((((s.k:Int),(s.o:Int),(s.wst:Int),0,0,[],(0,0,[],[],()),()),true),((a+(8+s.wst):Nat):Int),pk all):=by
 obtain ⟨k,o,wst,pr,sf,m,ro,cs,ps,es⟩:=s
 have ht64:Sb.typ ⟨k,o,wst,pr,sf,m,ro,cs,ps,es⟩<64:=by
  unfold Sb.typ
  simp only at *
  split
  ·omega
  ·split<;>omega
 have htv:(k<2/\o=0/\Sb.typ ⟨k,o,wst,pr,sf,m,ro,cs,ps,es⟩=k)\/(k=2/\o<=4/\Sb.typ ⟨k,o,wst,pr,sf,m,ro,cs,ps,es⟩=8+o)\/(k=3/\1<=o/\o<=32/\Sb.typ ⟨k,o,wst,pr,sf,m,ro,cs,ps,es⟩=31+o):=by
  unfold Sb.typ
  simp only at *
  by_cases h2:k<2
  ·exact .inl ⟨h2,low h2,if_pos h2⟩
  ·by_cases h3:k=2
   ·exact .inr (.inl ⟨h3,fix h3,by rw [if_neg h2,if_pos h3]⟩)
   ·have:=lpc (by omega)
    exact .inr (.inr ⟨by omega,this.1,this.2,by rw [if_neg h2,if_neg h3]⟩)
 generalize hT:Sb.typ ⟨k,o,wst,pr,sf,m,ro,cs,ps,es⟩=T at h ht64 htv
 simp only at *
 have hws:wsBits wst=[decide (wst≠0)]++(if wst=0 then [] else unaB (wst - 1)):=by
  unfold wsBits
  by_cases h0:wst=0
  ·subst h0;rfl
  ·rw [show (wst == 0)=false from beq_eq_false_iff_ne.2 h0,zc,zT h0,if_neg h0];rfl
 rw [hws,←List.append_assoc] at h
 have hg:=Get_eq all _ a 8 h.left (by rw [zL,zG];rfl) (by decide) hb
 rw [valB_snoc,valB_bitsOf,Nat.mod_eq_of_lt (by omega)] at hg
 have hb1:=toNat_lt2 (decide (wst≠0))
 generalize hB:decide (wst≠0)=b at hg hb1 h
 have hdiv:w64 (((2*T+b.toNat:Nat):Int) / 2)=(T:Int):=by rw [w64_id (by omega)];omega
 have hand:=and1 (2*T+b.toNat) (by omega)
 have hmod:(2*T+b.toNat) % 2=b.toNat:=by omega
 rw [hmod] at hand
 unfold LQ.head LQ.head.t
 dsimp only
 rw [Tr.rB]
 refine (bindT hg).trans ?_
 dsimp only
 rw [Tr.rR,show ((0:Int) != 0)=false from rfl,zc,Tr.rB,hdiv]
 refine (bindT (a:=Sum.inl ((((a+8:Nat):Int),pk all),(0,0,0,0,0,0,0),(k:Int),(o:Int),0,0,0,0,0)) (by
  rcases htv with ⟨h2,rfl,rfl⟩|⟨rfl,h4,rfl⟩|⟨rfl,h1,h32,rfl⟩
  ·rw [Tr.rR,zT (by omega),zC,Tr.rT];rfl
  ·have d1:decide (((8+o:Nat):Int)<2)=false:=zF (by omega)
   have d2:decide (((8+o:Nat):Int)>=8)=true:=zT (by omega)
   have d3:decide (((8+o:Nat):Int)<=12)=true:=zT (by omega)
   have e1:w64 (((8+o:Nat):Int) - 8)=(o:Int):=by rw [w64_id (by omega)];omega
   simp only [Tr.rB,Tr.rR,Tr.rT,Tr.run_csl,Tr.run_csr,zE,d1,d2,d3,e1,zC,zc]
   rfl
  ·have d1:decide (((31+o:Nat):Int)<2)=false:=zF (by omega)
   have d2:decide (((31+o:Nat):Int)>=8)=true:=zT (by omega)
   have d3:decide (((31+o:Nat):Int)<=12)=false:=zF (by omega)
   have d4:decide (((31+o:Nat):Int)>=32)=true:=zT (by omega)
   have d5:decide (((31+o:Nat):Int)<=63)=true:=zT (by omega)
   have e1:w64 (((31+o:Nat):Int) - 31)=(o:Int):=by rw [w64_id (by omega)];omega
   simp only [Tr.rB,Tr.rR,Tr.rT,Tr.run_csl,Tr.run_csr,zE,d1,d2,d3,d4,d5,e1,zC,zc]
   rfl)).trans ?_
 rw [Tr.run_csl,Tr.rB]
 dsimp only
 rw [hand]
 refine (bindT (a:=Sum.inr ((((a+(8+wst):Nat):Int),pk all),(0,0,0,0,0,0,0),(k:Int),(o:Int),(wst:Int),0,0,0,0)) (by
  by_cases h0:wst=0
  ·subst h0
   rw [←hB,Tr.rR];rfl
  ·have hbt:b=true:=by rw [←hB,zT h0]
   rw [hbt,if_neg h0] at h
   have hr:=h.right
   rw [zL,zG] at hr
   have hu:=UnaryR_eq all (a+8) (wst - 1) hr (by omega) hb
   rw [show wst - 1+1=wst by omega] at hu
   rw [hbt,Tr.rR,show (((true.toNat:Nat):Int) == 1)=true from rfl,zC,Tr.rB]
   refine (bindT hu).trans ?_
   dsimp only
   rw [Tr.rR,show ((0:Int) != 0)=false from rfl,zc,Tr.rT,w64_id (by omega),show ((wst - 1:Nat):Int)+1=(wst:Int) by omega,Nat.add_assoc])).trans ?_
 rw [Tr.run_csr,Tr.rB]
 dsimp only
 refine (bindT (a:=(true,(((a+(8+wst):Nat):Int),pk all),(k:Int),(o:Int),(wst:Int),0,0,0,0)) (by
  rw [Tr.rR,zT (by omega),zC,Tr.rT,zT (by omega)])).trans ?_
 rfl
theorem bodyF_eq (all:List Bool) (a W:Nat) (s:Sb) (l:List Int) (ok:SbOK s W l) (hb:all.length<=281474976710656)
  (h:Bat all a (sgBits (W - s.wst) ((mids s.wst l).take (s.warmN l.length))++(s.lpcB++s.resB l.length (mids s.wst l)))) :
  LQ.bodyF ((l.length:Int),((W - s.wst:Nat):Int)) ((a:Int),pk all) (s.k:Int) (s.o:Int) (s.wst:Int) 0 0 [] 0 0 [] []=some ((mids s.wst l,true),(((a+(sgBits (W - s.wst) ((mids s.wst l).take (s.warmN l.length))++(s.lpcB++s.resB l.length (mids s.wst l))).length:Nat):Int),pk all),(s.k:Int),(s.o:Int),(s.wst:Int),(s.pr:Int),(s.sf:Int),s.cs,(s.m:Int),(s.ro:Int),s.ps,s.es):=by
 obtain ⟨b1,b2,w1,w2,ws,dv,ft,k3,low,flat,con,fix,lpc,ob,ri,w31⟩:=ok
 have hmf:=mids_fits W s.wst l ws ft
 have hml:=mids_len s.wst l
 generalize hmm:mids s.wst l=mm at *
 obtain ⟨k,o,wst,pr,sf,m,ro,cs,ps,es⟩:=s
 simp only at *
 have hwn:Sb.warmN ⟨k,o,wst,pr,sf,m,ro,cs,ps,es⟩ l.length<=l.length:=by
  unfold Sb.warmN
  simp only
  split
  ·exact b1
  ·split
   ·exact Nat.le_refl _
   ·exact ob
 have hwarm:LQ.warm ((k:Int),(o:Int),(wst:Int),0,0,[],(0,0,[],[],()),()) (l.length:Int)=some ((Sb.warmN ⟨k,o,wst,pr,sf,m,ro,cs,ps,es⟩ l.length:Nat):Int):=by
  unfold LQ.warm LQ.warm.t Sb.warmN
  dsimp only
  by_cases h0:k=0
  ·rw [if_pos h0,Tr.rR,show ((k:Int) == 0)=true from beq_iff_eq.2 (by omega),zC,Tr.rT];rfl
  ·rw [if_neg h0,Tr.rR,show ((k:Int) == 0)=false from beq_eq_false_iff_ne.2 (by omega),zc,Tr.rR]
   by_cases h1:k=1
   ·rw [if_pos h1,show ((k:Int) == 1)=true from beq_iff_eq.2 (by omega),zC,Tr.rT]
   ·rw [if_neg h1,show ((k:Int) == 1)=false from beq_eq_false_iff_ne.2 (by omega),zc,Tr.rT]
 generalize hwv:Sb.warmN ⟨k,o,wst,pr,sf,m,ro,cs,ps,es⟩ l.length=wn at *
 have htl:(mm.take wn).length=wn:=by rw [List.length_take];omega
 have hnum:=numbers_eq all a (W - wst) (mm.take wn) h.left (by omega) (by omega) (fun n hn=>hmf n (List.mem_of_mem_take hn)) (by omega) hb
 rw [htl] at hnum
 have hsl:(sgBits (W - wst) (mm.take wn)).length=wn*(W - wst):=by rw [sgBits_len,htl]
 unfold LQ.bodyF LQ.bodyF.t
 dsimp only
 rw [Tr.rB]
 refine (bindT hwarm).trans ?_
 rw [Tr.rB]
 refine (bindT hnum).trans ?_
 rw [Tr.rB]
 dsimp only
 have hk1:((k:Int) == 1)=decide (k=1):=by rw [Bool.eq_iff_iff,beq_iff_eq,decide_eq_true_eq];omega
 have hk0:((k:Int) == 0)=decide (k=0):=by rw [Bool.eq_iff_iff,beq_iff_eq,decide_eq_true_eq];omega
 have hk3:((k:Int) == 3)=decide (k=3):=by rw [Bool.eq_iff_iff,beq_iff_eq,decide_eq_true_eq];omega
 have hk2:((k:Int) == 2)=decide (k=2):=by rw [Bool.eq_iff_iff,beq_iff_eq,decide_eq_true_eq];omega
 refine (bindT (a:=(decide (k=1),(((a+wn*(W - wst):Nat):Int),pk all),(k:Int),(o:Int),(wst:Int),0,0,[],0,0,[],[])) (by
  rw [Bool.not_true,Tr.rR,zc,Tr.rT,hk1])).trans ?_
 dsimp only
 rw [Tr.rR,hk0]
 by_cases e1:k=1
 ·subst e1
  obtain ⟨rfl,rfl,rfl,rfl,rfl⟩:=low (by decide)
  obtain ⟨rfl,rfl,rfl⟩:=flat (by decide)
  have hwn1:wn=l.length:=by rw [←hwv];rfl
  rw [zT rfl,zC,Tr.rT,zL,hsl,hwn1,List.take_of_length_le (by omega)]
  rfl
 rw [zF e1,zc,Tr.rR]
 by_cases e0:k=0
 ·subst e0
  obtain ⟨rfl,rfl,rfl,rfl,rfl⟩:=low (by decide)
  obtain ⟨rfl,rfl,rfl⟩:=flat (by decide)
  have hwn1:wn=1:=by rw [←hwv];rfl
  subst hwn1
  have hm0:mm.take 1=[mm.getD 0 0]:=by rw [List.take_succ_eq_append_getElem (by omega),getD_lt _ _ (by omega)];rfl
  have hrep:List.replicate l.length (mm.getD 0 0)=mm:=by
   rw [←hml]
   refine (List.eq_replicate_iff.2 ⟨rfl,fun x hx=>?_⟩).symm
   rw [←hmm] at hx ⊢
   obtain ⟨y,hy,rfl⟩:=List.mem_map.1 hx
   have g1:l.getD 0 0=l[0]:=getD_lt _ _ (by omega)
   have g2:(mids wst l).getD 0 0=l[0] / ((2 ^ wst:Nat):Int):=by
    rw [getD_lt _ _ (by rw [mids_len];omega)]
    simp [mids]
   rw [con rfl y hy,g2,g1]
  have hrp:=RepI_eq (mm.getD 0 0) l.length b1 b2
  rw [hrep] at hrp
  rw [zT rfl,zC,Tr.rB,hm0]
  refine (bindT hrp).trans ?_
  rw [Tr.rT,←hm0,zL,hsl]
  rfl
 rw [zF e0,zc,Tr.rB,hk3]
 have hk23:2<=k:=by omega
 have hwno:wn=o:=by rw [←hwv];unfold Sb.warmN;simp only;rw [if_neg e0,if_neg e1]
 have hri:=ri hk23
 have hrB:Sb.resB ⟨k,o,wst,pr,sf,m,ro,cs,ps,es⟩ l.length mm=riceB m ro ps es (l.length / 2 ^ ro) o (Sb.res ⟨k,o,wst,pr,sf,m,ro,cs,ps,es⟩ mm):=by unfold Sb.resB;simp only;rw [if_neg (by omega)]
 rw [hrB] at h ⊢
 have h2:=h.right
 rw [hsl] at h2
 have hrng:∀ x∈mm,-9223372036854775808<=x/\x<9223372036854775808:=fun x hx=>fitsW_inR _ x (by omega) (hmf x hx)
 have hdec:=rDec_eq all (a+wn*(W - wst)+(Sb.lpcB ⟨k,o,wst,pr,sf,m,ro,cs,ps,es⟩).length) m ro l.length o ps es _ hri h2.right hb
 refine (bindT (a:=(false,(((a+wn*(W - wst)+(Sb.lpcB ⟨k,o,wst,pr,sf,m,ro,cs,ps,es⟩).length:Nat):Int),pk all),(k:Int),(o:Int),(wst:Int),(pr:Int),(sf:Int),cs,0,0,[],[])) (by
  by_cases e3:k=3
  ·obtain ⟨l1,l2,l3,l4,l5,l6,l7⟩:=lpc e3
   have hlp:Sb.lpcB ⟨k,o,wst,pr,sf,m,ro,cs,ps,es⟩=bitsOf (pr - 1) 4++(bitsOf sf 5++sgBits pr cs):=by unfold Sb.lpcB;simp only;rw [if_pos e3]
   have h3:=h2.left
   rw [hlp] at h3 ⊢
   have hc:=coefs_eq all (a+wn*(W - wst)) k o wst pr sf 0 0 cs [] [] 0 0 [] h3 l3 l4 l5 l7 l6 l2 hb
   rw [zT e3,Tr.rR,zC,Tr.rB]
   refine (bindT hc).trans ?_
   rw [Tr.rT,zL,zL,zG,zG,sgBits_len,l6]
   have:a+wn*(W - wst)+9+o*pr=a+wn*(W - wst)+(4+(5+o*pr)):=by omega
   rw [this]
   rfl
  ·obtain ⟨rfl,rfl,rfl⟩:=flat (by omega)
   have hlp:Sb.lpcB ⟨k,o,wst,0,0,m,ro,[],ps,es⟩=[]:=by unfold Sb.lpcB;simp only;rw [if_neg e3]
   rw [hlp,zF e3,Tr.rR,zc,Tr.rT]
   rfl)).trans ?_
 dsimp only
 rw [Tr.rR,zc,Tr.rB]
 refine (bindT hdec).trans ?_
 dsimp only
 rw [Tr.rR,show ((0:Int) != 0)=false from rfl,zc,Tr.rB,hk2]
 have hfin:a+wn*(W - wst)+(Sb.lpcB ⟨k,o,wst,pr,sf,m,ro,cs,ps,es⟩).length+(riceB m ro ps es (l.length / 2 ^ ro) o (Sb.res ⟨k,o,wst,pr,sf,m,ro,cs,ps,es⟩ mm)).length=a+(sgBits (W - wst) (mm.take wn)++(Sb.lpcB ⟨k,o,wst,pr,sf,m,ro,cs,ps,es⟩++riceB m ro ps es (l.length / 2 ^ ro) o (Sb.res ⟨k,o,wst,pr,sf,m,ro,cs,ps,es⟩ mm))).length:=by
  rw [zL,zL,hsl];omega
 rw [hfin]
 refine (bindT (a:=(mm,0,(((a+(sgBits (W - wst) (mm.take wn)++(Sb.lpcB ⟨k,o,wst,pr,sf,m,ro,cs,ps,es⟩++riceB m ro ps es (l.length / 2 ^ ro) o (Sb.res ⟨k,o,wst,pr,sf,m,ro,cs,ps,es⟩ mm))).length:Nat):Int),pk all),(k:Int),(o:Int),(wst:Int),(pr:Int),(sf:Int),cs,(m:Int),(ro:Int),ps,es)) (by
  rw [hwno]
  by_cases e2:k=2
  ·have hu:=Unfixed_eq o mm (fix e2) (by omega) (by omega) hrng
   have hres:Sb.res ⟨k,o,wst,pr,sf,m,ro,cs,ps,es⟩ mm=leftV (fixedC o) 0 o mm:=by unfold Sb.res;simp only;rw [if_pos e2]
   rw [zT e2,Tr.rR,zC,Tr.rB,hres]
   refine (bindT hu).trans ?_
   rfl
  ·obtain ⟨l1,l2,l3,l4,l5,l6,l7⟩:=lpc (by omega)
   have hu:=Unlpc_eq cs mm sf (by omega) (by omega) (by omega) (by omega) (by omega) hrng
   rw [l6] at hu
   have hres:Sb.res ⟨k,o,wst,pr,sf,m,ro,cs,ps,es⟩ mm=leftV cs sf o mm:=by unfold Sb.res;simp only;rw [if_neg e2]
   rw [zF e2,Tr.rR,zc,Tr.rB,hres]
   refine (bindT hu).trans ?_
   rfl)).trans ?_
 rfl
end
section
set_option maxRecDepth 10000
open Go.LM
theorem r8Same_self (m ro:Int) (ps es:List Int) (h1:ps.length<=1048576) (h2:es.length<=1048576):LQ.r8Same (m,ro,ps,es,()) (m,ro,ps,es,())=some true:=by
 have l0:=loopO_steps (f:=fun (d:Int×(Int×Int×List Int×List Int)×Int×Int×List Int×List Int)=>(LQ.r8Same.l0 d.1 d.2.1 d.2.2.1 d.2.2.2.1 d.2.2.2.2.1 d.2.2.2.2.2).run) (fun i=>((i:Int),(m,ro,ps,es),m,ro,ps,es)) (r:=.inr ((m,ro,ps,es),m,ro,ps,es)) ps.length (fun i hi=>by
   unfold LQ.r8Same.l0
   dsimp only
   rw [Tr.rR,zT (by simp only [zN];omega),zC,Tr.rN _ (by simp only [zN];omega),Tr.rN _ (by simp only [zN];omega),bne_self_eq_false,Tr.rR,zc,Tr.rT,w64_id (by omega)]
   rfl) (by
   unfold LQ.r8Same.l0
   dsimp only
   rw [Tr.rR,zF (by simp only [zN];omega),zc,Tr.rT])
 have l1:=loopO_steps (f:=fun (d:Int×(Int×Int×List Int×List Int)×Int×Int×List Int×List Int)=>(LQ.r8Same.l1 d.1 d.2.1 d.2.2.1 d.2.2.2.1 d.2.2.2.2.1 d.2.2.2.2.2).run) (fun i=>((i:Int),(m,ro,ps,es),m,ro,ps,es)) (r:=.inr ()) es.length (fun i hi=>by
   unfold LQ.r8Same.l1
   dsimp only
   rw [Tr.rR,zT (by simp only [zN];omega),zC,Tr.rN _ (by simp only [zN];omega),Tr.rN _ (by simp only [zN];omega),bne_self_eq_false,Tr.rR,zc,Tr.rT,w64_id (by omega)]
   rfl) (by
   unfold LQ.r8Same.l1
   dsimp only
   rw [Tr.rR,zF (by simp only [zN];omega),zc,Tr.rT])
 unfold LQ.r8Same LQ.r8Same.t
 dsimp only
 rw [Tr.rB]
 refine (bindT (a:=(false,(m,ro,ps,es),m,ro,ps,es)) (by
  simp only [bne_self_eq_false,Tr.rR,zc,Tr.rT])).trans ?_
 dsimp only
 rw [Tr.rR,zc,Tr.rB]
 refine (bindT l0).trans ?_
 rw [Tr.run_csr,Tr.rB]
 dsimp only
 refine (bindT l1).trans ?_
 rfl
theorem r10Same_self (s:SubD) (h0:s.2.2.2.2.2.1.length<=1048576) (h1:s.2.2.2.2.2.2.1.2.2.1.length<=1048576) (h2:s.2.2.2.2.2.2.1.2.2.2.1.length<=1048576):LQ.r10Same s s=some true:=by
 obtain ⟨k,o,w,p,sf,cs,⟨m,ro,ps,es,u⟩,u2⟩:=s
 have a1:=r8Same_self m ro ps es h1 h2
 have a0:=rInts_self cs h0
 unfold LQ.r10Same LQ.r10Same.t
 dsimp only
 simp only [beq_self_eq_true,Tr.rB,Tr.rR,zC,a0,zE,a1,Tr.rT]
end
end Go.Proofs.YtedcnpankkaboaaGreat.Dg
section
set_option maxRecDepth 10000
namespace Go.LM
open Go
theorem loopO_ex {D R:Type} {f:D->Option (D⊕R)} (P:Nat->Prop) (bad good:R):∀ (N:Nat) (S:Nat->D),(∀ i,i<N->(P i/\f (S i)=some (.inl (S (i+1))))\/f (S i)=some (.inr bad))->f (S N)=some (.inr good) ->
  (loopO f (S 0)=some good/\∀ i,i<N->P i)\/loopO f (S 0)=some bad:=by
 intro N
 induction N generalizing P with
 |zero=>intro S _ h;exact .inl ⟨loopO_done h,fun i hi=>by omega⟩
 |succ N ih=>
  intro S hs h
  rcases hs 0 (by omega) with ⟨hp,h0⟩|h0
  ·have:=ih (fun i=>P (i+1)) (fun i=>S (i+1)) (fun i hi=>hs (i+1) (by omega)) h
   rw [loopO_next h0]
   rcases this with ⟨a,b⟩|a
   ·refine .inl ⟨a,fun i hi=>?_⟩
    cases i with
    |zero=>exact hp
    |succ i=>exact b i (by omega)
   ·exact .inr a
  ·exact .inr (loopO_done h0)
theorem loopO_ex2 {D R:Type} {f:D->Option (D⊕R)} (P:Nat->Prop) (bad good:R):∀ (N:Nat) (S:Nat->D),(∀ i,i<N->(P i/\f (S i)=some (.inl (S (i+1))))\/(¬ P i/\f (S i)=some (.inr bad)))->f (S N)=some (.inr good) ->
  (loopO f (S 0)=some good/\∀ i,i<N->P i)\/(loopO f (S 0)=some bad/\¬ ∀ i,i<N->P i):=by
 intro N
 induction N generalizing P with
 |zero=>intro S _ h;exact .inl ⟨loopO_done h,fun i hi=>by omega⟩
 |succ N ih=>
  intro S hs h
  rcases hs 0 (by omega) with ⟨hp,h0⟩|⟨hp,h0⟩
  ·have:=ih (fun i=>P (i+1)) (fun i=>S (i+1)) (fun i hi=>hs (i+1) (by omega)) h
   rw [loopO_next h0]
   rcases this with ⟨a,b⟩|⟨a,b⟩
   ·refine .inl ⟨a,fun i hi=>?_⟩
    cases i with
    |zero=>exact hp
    |succ i=>exact b i (by omega)
   ·exact .inr ⟨a,fun hall=>b fun i hi=>hall (i+1) (by omega)⟩
  ·exact .inr ⟨loopO_done h0,fun hall=>hp (hall 0 (by omega))⟩
theorem andn_nil (m:Int) (h:inR m) (h0:w64 (bitsI BinOp.andNot IntKind.i64 m 1)=0):m=0\/m=1:=by
 have hx:bitsI BinOp.andNot IntKind.i64 m 1=((BitVec.ofInt 64 m &&& ~~~(BitVec.ofInt 64 1)).toNat:Int):=rfl
 rw [hx] at h0
 have hlt:=(BitVec.ofInt 64 m &&& ~~~(BitVec.ofInt 64 1)).isLt
 generalize hq:(BitVec.ofInt 64 m &&& ~~~(BitVec.ofInt 64 1)).toNat=q at h0 hlt
 have hq0:q=0:=by
  have h1:IntKind.i64.wrap (q:Int)=0:=h0
  rw [IntKind.wrap_i64] at h1;omega
 rw [hq0] at hq
 have hz:BitVec.ofInt 64 m &&& ~~~(BitVec.ofInt 64 1)=0#64:=BitVec.eq_of_toNat_eq hq
 have hid:BitVec.ofInt 64 m=BitVec.ofInt 64 m &&& BitVec.ofInt 64 1:=by
  have:BitVec.ofInt 64 m=(BitVec.ofInt 64 m &&& ~~~(BitVec.ofInt 64 1)) ||| (BitVec.ofInt 64 m &&& BitVec.ofInt 64 1):=by
   apply BitVec.eq_of_getLsbD_eq
   intro i hi
   simp only [BitVec.getLsbD_or,BitVec.getLsbD_and,BitVec.getLsbD_not,zT hi,Bool.true_and]
   cases (BitVec.ofInt 64 m).getLsbD i<;>cases (BitVec.ofInt 64 1).getLsbD i<;>rfl
  rw [hz,BitVec.zero_or] at this
  exact this
 have hn:(BitVec.ofInt 64 m).toNat<2:=by
  rw [hid,BitVec.toNat_and,show (BitVec.ofInt 64 1).toNat=2 ^ 1 - 1 by decide,Nat.and_two_pow_sub_one_eq_mod]
  omega
 rw [BitVec.toNat_ofInt] at hn
 unfold inR at h
 omega
theorem fit_of (n:Int) (W:Nat) (h1:1<=W) (h2:W<=63) (h:inR n) (e:n / ((2 ^ (W - 1):Nat):Int)=n / 9223372036854775808):fitsW W n:=by
 have hp0:0<2 ^ (W - 1):=Nat.pow_pos (by decide)
 unfold fitsW
 unfold inR at h
 generalize 2 ^ (W - 1)=p at *
 have hm:=Int.emod_nonneg n (b:=(p:Int)) (by omega)
 have hm2:=Int.emod_lt_of_pos n (b:=(p:Int)) (by omega)
 have hd:=Int.mul_ediv_add_emod n (p:Int)
 by_cases hn:n<0
 ·have:n / 9223372036854775808=-1:=by omega
  rw [e,this,Int.mul_neg,Int.mul_one] at hd
  omega
 ·have:n / 9223372036854775808=0:=by omega
  rw [e,this,Int.mul_zero] at hd
  omega
end Go.LM
namespace Go.Proofs.YtedcnpankkaboaaGreat.Dg
open Go.LM
theorem sfits_dec (n:Int) (W:Nat) (h1:1<=W) (h2:W<=63) (h:inR n):(fitsW W n/\LQ.sfits n (W:Int)=some true)\/LQ.sfits n (W:Int)=some false:=by
 by_cases hf:fitsW W n
 ·exact .inl ⟨hf,sfits_eq n W h1 h2 hf⟩
 ·right
  unfold LQ.sfits LQ.sfits.t
  have e1:w64 ((W:Int) - 1)=((W - 1:Nat):Int):=by rw [w64_id (by omega)];omega
  rw [e1,Tr.rN _ (by omega),Tr.rT,p2_nat _ _ (by omega)]
  have:(n / ((2 ^ (W - 1):Nat):Int) == n / 9223372036854775808)=false:=by
   cases hb:(n / ((2 ^ (W - 1):Nat):Int) == n / 9223372036854775808) with
   |false=>rfl
   |true=>exact absurd (fit_of n W h1 h2 h (beq_iff_eq.1 hb)) hf
  rw [this]
theorem bfits_dec (n:Int) (W:Nat) (h1:1<=W) (h2:W<=63) (h:inR n):(fitsW W n/\LQ.bfits n (W:Int)=some true)\/(¬ fitsW W n/\LQ.bfits n (W:Int)=some false):=by
 by_cases hf:fitsW W n
 ·exact .inl ⟨hf,bfits_eq n W h1 h2 hf⟩
 ·right
  refine ⟨hf,?_⟩
  unfold LQ.bfits LQ.bfits.t
  have e1:w64 ((W:Int) - 1)=((W - 1:Nat):Int):=by rw [w64_id (by omega)];omega
  rw [Tr.rB,Tr.rR,zT (by omega),zC,Tr.rR,zT (by omega),zC,e1,Tr.rN _ (by omega),p2_nat _ _ (by omega),Tr.rT,zE,Tr.rT]
  have:(n / ((2 ^ (W - 1):Nat):Int) == n / 9223372036854775808)=false:=by
   cases hb:(n / ((2 ^ (W - 1):Nat):Int) == n / 9223372036854775808) with
   |false=>rfl
   |true=>exact absurd (fit_of n W h1 h2 h (beq_iff_eq.1 hb)) hf
  rw [this]
theorem sig1_no (n:Int) (W:Nat) (a:Int) (row:List UInt8) (h:LQ.bfits n (W:Int)=some false):LQ.sig1 (n,(W:Int)) a row=some (11,a,row):=by
 unfold LQ.sig1 LQ.sig1.t
 dsimp only
 rw [Tr.rR,zc,Tr.rB,h,zE,Tr.rR];rfl
structure RcOK (m ro:Nat) (ps es:List Int) (block order:Nat):Prop where
 hm:m=0\/m=1
 ro15:ro<=15
 b1:1<=block
 b2:block<=65535
 o32:order<=32
 dv:block / 2 ^ ro*2 ^ ro=block
 ge:order<=block / 2 ^ ro
 lp:ps.length=2 ^ ro
 le:es.length=2 ^ ro
 kk:∀ i,i<2 ^ ro->0<=ps.getD i 0/\ps.getD i 0<((2 ^ (4+m) - 1:Nat):Int)/\-1<=es.getD i 0/\es.getD i 0<=31/\(0<=es.getD i 0->ps.getD i 0=0)
theorem rshape_dec (m ro:Int) (block order:Nat) (ps es:List Int) (hm:inR m) (hb:1<=block/\block<=65535) (ho:order<=32) :
  (∃ m' ro':Nat,m=(m':Int)/\ro=(ro':Int)/\(m'=0\/m'=1)/\ro'<=15/\block / 2 ^ ro'*2 ^ ro'=block/\order<=block / 2 ^ ro'/\LQ.rshape (m,ro,ps,es,()) (block:Int) (order:Int)=some true)\/LQ.rshape (m,ro,ps,es,()) (block:Int) (order:Int)=some false:=by
 have d3:decide ((block:Int)<1)=false:=zF (by omega)
 have d4:decide ((block:Int)>65535)=false:=zF (by omega)
 have d5:decide ((order:Int)<0)=false:=zF (by omega)
 have d6:decide ((order:Int)>32)=false:=zF (by omega)
 by_cases c0:w64 (bitsI BinOp.andNot IntKind.i64 m 1)=0
 rotate_left
 ·right
  unfold LQ.rshape LQ.rshape.t
  dsimp only
  rw [Tr.rB,Tr.rR,bne_iff_ne.2 c0,zC,Tr.rT,zE,Tr.rR];rfl
 have hm01:=andn_nil m hm c0
 have d0:(w64 (bitsI BinOp.andNot IntKind.i64 m 1) != 0)=false:=by rw [c0];rfl
 by_cases c1:ro<0
 ·right
  unfold LQ.rshape LQ.rshape.t
  dsimp only
  rw [Tr.rB,Tr.rR,d0,zc,Tr.rR,zT c1,zC,Tr.rT,zE,Tr.rR];rfl
 by_cases c2:ro>15
 ·right
  unfold LQ.rshape LQ.rshape.t
  dsimp only
  rw [Tr.rB,Tr.rR,d0,zc,Tr.rR,zF c1,zc,Tr.rR,zT c2,zC,Tr.rT,zE,Tr.rR];rfl
 obtain ⟨ro',rfl⟩:∃ ro':Nat,ro=(ro':Int):=⟨ro.toNat,by omega⟩
 obtain ⟨m',rfl⟩:∃ m':Nat,m=(m':Int):=⟨m.toNat,by omega⟩
 by_cases c3:block / 2 ^ ro'*2 ^ ro'=block/\order<=block / 2 ^ ro'
 ·exact .inl ⟨m',ro',rfl,rfl,by omega,by omega,c3.1,c3.2,rshape_eq m' ro' block order ps es (by omega) (by omega) hb ho c3.1 c3.2⟩
 ·right
  unfold LQ.rshape LQ.rshape.t
  dsimp only
  rw [Tr.rB]
  refine (bindT (a:=(false,(m':Int),(ro':Int),ps,es)) (by
   rw [Tr.rR,d0,zc,Tr.rR,zF c1,zc,Tr.rR,zF c2,zc,Tr.rR,d3,zc,Tr.rR,d4,zc,Tr.rR,d5,zc,Tr.rT,d6])).trans ?_
  dsimp only
  have e1:(block:Int) / ((2 ^ ro':Nat):Int)*((2 ^ ro':Nat):Int)=((block / 2 ^ ro'*2 ^ ro':Nat):Int):=rfl
  have e2:(block:Int) / ((2 ^ ro':Nat):Int)=((block / 2 ^ ro':Nat):Int):=rfl
  have hle:block / 2 ^ ro'*2 ^ ro'<=block:=Nat.div_mul_le_self _ _
  rw [Tr.rR,zc,Tr.rN _ (by omega),Tr.rB,Tr.rN _ (by omega),Tr.rR,p2_nat _ _ (by omega),e1,e2]
  generalize block / 2 ^ ro'*2 ^ ro'=u at *
  generalize block / 2 ^ ro'=v at *
  rw [w64_id (by omega)]
  by_cases c4:u=block
  ·rw [show ((u:Int) == (block:Int))=true from beq_iff_eq.2 (by omega),zC,Tr.rT,zE,zF (by omega)];rfl
  ·rw [show ((u:Int) == (block:Int))=false from beq_eq_false_iff_ne.2 (by omega),zc,Tr.rT,zE];rfl
theorem rCheck_dec (m ro:Int) (block order:Nat) (ps es:List Int) (hm:inR m) (hb:1<=block/\block<=65535) (ho:order<=32) :
  (∃ m' ro':Nat,m=(m':Int)/\ro=(ro':Int)/\RcOK m' ro' ps es block order/\LQ.rCheck (m,ro,ps,es,()) (block:Int) (order:Int)=some 0)\/LQ.rCheck (m,ro,ps,es,()) (block:Int) (order:Int)=some 60:=by
 rcases rshape_dec m ro block order ps es hm hb ho with ⟨m',ro',rfl,rfl,hm',hro,dv,ge,hs⟩|hs
 rotate_left
 ·right
  unfold LQ.rCheck LQ.rCheck.t
  dsimp only
  rw [Tr.rB,Tr.rB,hs,zE,Tr.rR];rfl
 have hN:2 ^ ro'<=2 ^ 15:=Nat.pow_le_pow_right (by decide) hro
 have wN:w64 ((1:Int)*p2 (ro':Int) 64)=((2 ^ ro':Nat):Int):=by
  rw [p2_nat _ _ (by omega)]
  generalize 2 ^ ro'=N at *
  rw [w64_id (by omega)];omega
 by_cases c1:ps.length=2 ^ ro'
 rotate_left
 ·right
  unfold LQ.rCheck LQ.rCheck.t
  dsimp only
  rw [Tr.rB,Tr.rB,hs,zE,Bool.not_true,Tr.rR,zc,Tr.rN _ (by omega),wN,Tr.rR,show (Int.ofNat ps.length != ((2 ^ ro':Nat):Int))=true from bne_iff_ne.2 (by simp only [zN];omega),zC];rfl
 by_cases c2:es.length=2 ^ ro'
 rotate_left
 ·right
  unfold LQ.rCheck LQ.rCheck.t
  dsimp only
  rw [Tr.rB,Tr.rB,hs,zE,Bool.not_true,Tr.rR,zc,Tr.rN _ (by omega),wN,Tr.rR,c1,show (Int.ofNat (2 ^ ro') != ((2 ^ ro':Nat):Int))=false from bne_self_eq_false _,zc,Tr.rN _ (by omega),Tr.rT,show (Int.ofNat es.length != ((2 ^ ro':Nat):Int))=true from bne_iff_ne.2 (by simp only [zN];omega)];rfl
 have hmost:∃ mo:Int,mo=((2 ^ (4+m') - 1:Nat):Int) - 1/\(Tr.br ((m':Int) == (1:Int)) (Tr.ret ((30:Int),(m':Int),(ro':Int),ps,es)) (Tr.ret ((14:Int),(m':Int),(ro':Int),ps,es))).run=some (mo,(m':Int),(ro':Int),ps,es):=by
  rcases hm' with rfl|rfl
  ·exact ⟨14,by decide,rfl⟩
  ·exact ⟨30,by decide,rfl⟩
 obtain ⟨mo,hmo,hmr⟩:=hmost
 have key:=loopO_ex (f:=fun (d:Int×Int×Int×List Int×List Int)=>(LQ.rCheck.l0 (mo,(m':Int),(ro':Int),ps,es) d.1 d.2.1 d.2.2.1 d.2.2.2.1 d.2.2.2.2).run)
  (fun i=>0<=ps.getD i 0/\ps.getD i 0<((2 ^ (4+m') - 1:Nat):Int)/\-1<=es.getD i 0/\es.getD i 0<=31/\(0<=es.getD i 0->ps.getD i 0=0)) (.inl (60:Int)) (.inr ()) (2 ^ ro') (fun i=>((i:Int),(m':Int),(ro':Int),ps,es)) (fun i hi=>by
   have st:(LQ.rCheck.l0 (mo,(m':Int),(ro':Int),ps,es) (i:Int) (m':Int) (ro':Int) ps es).run
    = ((bif decide (ps.getD i 0<0) then some true else bif decide (ps.getD i 0>mo) then some true else bif decide (es.getD i 0 < -1) then some true else bif decide (es.getD i 0>31) then some true else bif decide (es.getD i 0>=0) then some (ps.getD i 0 != 0) else some false).bind fun b=>bif b then some (.inr (.inl (60:Int))) else some (.inl (((i+1:Nat):Int),(m':Int),(ro':Int),ps,es))):=by
    unfold LQ.rCheck.l0
    dsimp only
    rw [Tr.rR,zT (by simp only [zN];omega),zC,Tr.rN _ (by simp only [zN];omega),Tr.rN _ (by simp only [zN];omega),Tr.rB,Int.toNat_natCast,w64_id (by omega)]
    simp only [Tr.rR,Tr.rT]
    cases decide (ps.getD i 0<0)<;>cases decide (ps.getD i 0>mo)<;>cases decide (es.getD i 0 < -1)<;>cases decide (es.getD i 0>31)<;>cases decide (es.getD i 0>=0)<;>rfl
   dsimp only
   rw [st]
   by_cases a1:ps.getD i 0<0
   ·right;rw [zT a1];rfl
   by_cases a2:ps.getD i 0>mo
   ·right;rw [zF a1,zT a2];rfl
   by_cases a3:es.getD i 0 < -1
   ·right;rw [zF a1,zF a2,zT a3];rfl
   by_cases a4:es.getD i 0>31
   ·right;rw [zF a1,zF a2,zF a3,zT a4];rfl
   by_cases a5:es.getD i 0>=0
   ·by_cases a6:ps.getD i 0=0
    ·left
     refine ⟨⟨by omega,by omega,by omega,by omega,fun _=>a6⟩,?_⟩
     rw [zF a1,zF a2,zF a3,zF a4,zT a5,a6];rfl
    ·right;rw [zF a1,zF a2,zF a3,zF a4,zT a5]
     simp only [zC,zc,zb]
     rw [bne_iff_ne.2 a6];rfl
   ·left
    refine ⟨⟨by omega,by omega,by omega,by omega,fun h=>absurd h a5⟩,?_⟩
    rw [zF a1,zF a2,zF a3,zF a4,zF a5];rfl) (by
   unfold LQ.rCheck.l0
   dsimp only
   rw [Tr.rR,zF (by simp only [zN];omega),zc,Tr.rT])
 have pre:∀ r,loopO (fun (d:Int×Int×Int×List Int×List Int)=>(LQ.rCheck.l0 (mo,(m':Int),(ro':Int),ps,es) d.1 d.2.1 d.2.2.1 d.2.2.2.1 d.2.2.2.2).run) ((0:Int),(m':Int),(ro':Int),ps,es)=some r->LQ.rCheck ((m':Int),(ro':Int),ps,es,()) (block:Int) (order:Int)=(Tr.cs Int PUnit r (0:Int) () (fun (r5:Int)=>Tr.ret r5) fun (r6:PUnit)=>Tr.ret (0:Int)).run:=fun r hr=>by
  unfold LQ.rCheck LQ.rCheck.t
  dsimp only
  rw [Tr.rB]
  refine (bindT (a:=(false,(m':Int),(ro':Int),ps,es)) (by
   rw [Tr.rB,hs,zE,Bool.not_true,Tr.rR,zc,Tr.rN _ (by omega),wN,Tr.rR,c1,show (Int.ofNat (2 ^ ro') != ((2 ^ ro':Nat):Int))=false from bne_self_eq_false _,zc,Tr.rN _ (by omega),Tr.rT,c2,show (Int.ofNat (2 ^ ro') != ((2 ^ ro':Nat):Int))=false from bne_self_eq_false _])).trans ?_
  dsimp only
  rw [Tr.rR,zc,Tr.rB]
  refine (bindT hmr).trans ?_
  dsimp only
  rw [Tr.rB]
  exact bindT hr
 rcases key with ⟨k1,k2⟩|k1
 ·exact .inl ⟨m',ro',rfl,rfl,⟨hm',hro,hb.1,hb.2,ho,dv,ge,c1,c2,k2⟩,pre _ k1⟩
 ·exact .inr (pre _ k1)
end Go.Proofs.YtedcnpankkaboaaGreat.Dg
end
namespace Go.Proofs.YtedcnpankkaboaaGreat.Dg
section
set_option maxRecDepth 10000
open Go.LM
theorem rcut_eq (l:List Int) (m:Int) (ro:Nat) (ps es:List Int) (block o i:Nat) (hro:ro<=15) (hb:block<=65535) (ho:o<=block / 2 ^ ro) (dv:block / 2 ^ ro*2 ^ ro=block) (hl:l.length=block - o) (hi:i<2 ^ ro) :
  LQ.rcut l (m,(ro:Int),ps,es,()) (block:Int) (o:Int) (i:Int)=some (cutN l o (block / 2 ^ ro) i):=by
 have hdiv:((block:Int) / ((2 ^ ro:Nat):Int))=((block / 2 ^ ro:Nat):Int):=rfl
 have hob:o<=block:=Nat.le_trans ho (Nat.div_le_self _ _)
 unfold LQ.rcut LQ.rcut.t
 dsimp only
 rw [Tr.rN _ (by omega),p2_nat _ _ (by omega),hdiv]
 have hmul:(i+1)*(block / 2 ^ ro)<=block:=by
  refine Nat.le_trans (Nat.mul_le_mul_right _ hi) ?_
  rw [Nat.mul_comm,dv];exact Nat.le_refl _
 have hin:i*(block / 2 ^ ro)+block / 2 ^ ro=(i+1)*(block / 2 ^ ro):=by rw [Nat.add_mul,Nat.one_mul]
 generalize block / 2 ^ ro=n at *
 have e1:(i:Int)*(n:Int)=((i*n:Nat):Int):=rfl
 have e2:((i:Int)+1)*(n:Int)=(((i+1)*n:Nat):Int):=rfl
 have hi2:(i:Int)<65536:=by
  have:2 ^ ro<=2 ^ 15:=Nat.pow_le_pow_right (by decide) hro
  omega
 rw [w64_id (x:=(i:Int)+1) (by omega),e1,e2]
 generalize hA:i*n=A at *
 generalize hB:(i+1)*n=B at *
 rw [w64_id (x:=((A:Nat):Int)) (by omega),w64_id (x:=((B:Nat):Int)) (by omega),w64_id (x:=((A:Nat):Int) - (o:Int)) (by omega),w64_id (x:=((B:Nat):Int) - (o:Int)) (by omega)]
 have e3:(if ((A:Nat):Int) - (o:Int)>0 then ((A:Nat):Int) - (o:Int) else 0)=((A - o:Nat):Int):=by split<;>omega
 have e4:((B:Nat):Int) - (o:Int)=((B - o:Nat):Int):=by omega
 rw [e3,e4,Tr.rN _ (by simp only [zN];omega),Tr.rT]
 unfold cutN
 rw [hA,hB]
 have e5:(((B - o:Nat):Int) - ((A - o:Nat):Int)).toNat=B - o - (A - o):=by omega
 first
  |rw [e5,Int.toNat_natCast]
  |rw [Int.toNat_natCast]
def ItOK (k e n:Int):Prop:=inR n/\(e<0->zz n / 2 ^ k.toNat<=16777216)/\(0<e->fitsW e.toNat n)/\(e=0->n=0)
theorem rmay_dec (l:List Int) (k e:Int) (hk:0<=k/\k<=30) (he:-1<=e/\e<=31) (hl:l.length<=65535) (hr:∀ n∈l,inR n):((∀ n∈l,ItOK k e n)/\LQ.rmay l k e=some true)\/((¬ ∀ n∈l,ItOK k e n)/\LQ.rmay l k e=some false):=by
 obtain ⟨k',rfl⟩:∃ k':Nat,k=(k':Int):=⟨k.toNat,by omega⟩
 let B:Nat->List Bool:=fun i=>if 0<e then sgBits e.toNat (l.take i) else []
 have hBl:∀ i,(B i).length<=65535*31:=fun i=>by
  show (if 0<e then sgBits e.toNat (l.take i) else []).length<=_
  split
  ·rw [sgBits_len]
   exact Nat.mul_le_mul (by rw [List.length_take];omega) (by omega)
  ·exact Nat.zero_le _
 have key:=loopO_ex2 (f:=fun (d:Int×Int×List UInt8)=>(LQ.rmay.l0 l (k':Int) e d.1 d.2.1 d.2.2).run) (fun i=>ItOK (k':Int) e (l.getD i 0)) (.inl false) (.inr ()) l.length (fun i=>((i:Int),((B i).length:Int),pk (B i))) (fun i hi=>by
  have hn:inR (l.getD i 0):=hr _ (by rw [getD_lt _ _ hi];exact List.getElem_mem hi)
  have st:(LQ.rmay.l0 l (k':Int) e (i:Int) ((B i).length:Int) (pk (B i))).run=((Tr.br (decide (e<(0:Int))) (Tr.need ((0:Int)<=(k':Int)) (Tr.bind (Int×Int×List UInt8) (Tr.br (decide (IntKind.u64.wrap (bitsI BinOp.xor IntKind.u64 (IntKind.u64.wrap (IntKind.u64.wrap (l.getD i (0:Int))*(2:Int))) (IntKind.u64.wrap (l.getD i (0:Int) / (9223372036854775808:Int)))) / p2 (k':Int) (64:Nat)>(16777216:Int))) (Tr.ret ((11:Int),((B i).length:Int),(pk (B i)))) (Tr.ret ((0:Int),((B i).length:Int),(pk (B i))))).run ((0:Int),(0:Int),[]) fun (r1:Int×Int×List UInt8)=>Tr.ret (r1.1,r1.2.1,r1.2.2))) (Tr.bind (Int×Int×List UInt8) (Tr.br (decide (e>(0:Int))) (Tr.bind (Int×Int×List UInt8) (LQ.sig1 (l.getD i (0:Int),e) ((B i).length:Int) (pk (B i))) ((0:Int),(0:Int),[]) fun (r2:Int×Int×List UInt8)=>Tr.ret (r2.1,r2.2.1,r2.2.2)) (Tr.bind (Int×Int×List UInt8) (Tr.br (l.getD i (0:Int) != (0:Int)) (Tr.ret ((11:Int),((B i).length:Int),(pk (B i)))) (Tr.ret ((0:Int),((B i).length:Int),(pk (B i))))).run ((0:Int),(0:Int),[]) fun (r3:Int×Int×List UInt8)=>Tr.ret (r3.1,r3.2.1,r3.2.2))).run ((0:Int),(0:Int),[]) fun (r4:Int×Int×List UInt8)=>Tr.ret (r4.1,r4.2.1,r4.2.2))).run).bind fun r=>(Tr.br (r.1 != (0:Int)) (Tr.ret (Sum.inr (Sum.inl false))) (Tr.ret (Sum.inl (((i+1:Nat):Int),r.2.1,r.2.2)))).run:=by
   unfold LQ.rmay.l0
   rw [Tr.rR,zT (p:=(i:Int)<Int.ofNat l.length) (by simp only [zN];omega),zC,Tr.rN _ (by simp only [zN];omega),Tr.rB,Int.toNat_natCast,w64_id (x:=(i:Int)+1) (by omega)]
   rfl
  dsimp only
  rw [st]
  by_cases hneg:e<0
  ·have hB0:∀ j,B j=[]:=fun j=>if_neg (by omega)
   have e1:((zz (l.getD i 0):Nat):Int) / ((2 ^ k':Nat):Int)=((zz (l.getD i 0) / 2 ^ k':Nat):Int):=rfl
   rw [zT (p:=e<0) hneg,Tr.rR,zC,Tr.rN _ (by omega),Tr.rB,zz_fold _ hn,p2_nat _ _ (by omega),e1,hB0 i,hB0 (i+1)]
   by_cases hz:zz (l.getD i 0) / 2 ^ k'<=16777216
   ·left
    refine ⟨⟨hn,fun _=>by rw [Int.toNat_natCast];exact hz,fun h=>by omega,fun h=>by omega⟩,?_⟩
    rw [zF (by generalize zz (l.getD i 0) / 2 ^ k'=q at hz;omega)];rfl
   ·right
    refine ⟨fun hx=>hz (by have:=hx.2.1 hneg;rw [Int.toNat_natCast] at this;exact this),?_⟩
    rw [zT (by generalize zz (l.getD i 0) / 2 ^ k'=q at hz;omega)];rfl
  ·by_cases hpos:0<e
   ·have hBi:∀ j,B j=sgBits e.toNat (l.take j):=fun j=>if_pos hpos
    obtain ⟨e',rfl⟩:∃ e':Nat,e=(e':Int):=⟨e.toNat,by omega⟩
    rw [zF (p:=((e':Nat):Int)<0) hneg,Tr.rR,zc,Tr.rB,zT (p:=((e':Nat):Int)>0) hpos]
    rcases bfits_dec (l.getD i 0) e' (by omega) (by omega) hn with ⟨hf,_⟩|⟨hnf,hf⟩
    ·left
     refine ⟨⟨hn,fun h=>by omega,fun _=>by rw [Int.toNat_natCast];exact hf,fun h=>by omega⟩,?_⟩
     have hs:=sig1_eq (B i) (l.getD i 0) e' (by omega) (by omega) hf (by have:=hBl i;omega)
     have hnx:B (i+1)=B i++bitsOf (two64 (l.getD i 0)) e':=by
      rw [hBi,hBi,Int.toNat_natCast,List.take_succ_eq_append_getElem hi,getD_lt _ _ hi]
      unfold sgBits two64
      rw [List.flatMap_append];simp
     rw [Tr.rR,zC,Tr.rB,hs,hnx,zL,zG];rfl
    ·right
     refine ⟨fun hx=>hnf (by have:=hx.2.2.1 hpos;rw [Int.toNat_natCast] at this;exact this),?_⟩
     rw [Tr.rR,zC,Tr.rB,sig1_no _ _ _ _ hf];rfl
   ·have hB0:∀ j,B j=[]:=fun j=>if_neg hpos
    rw [zF (p:=e<0) hneg,Tr.rR,zc,Tr.rB,zF (p:=e>0) hpos,Tr.rR,zc,Tr.rB,hB0 i,hB0 (i+1)]
    by_cases h0:l.getD i 0=0
    ·left
     refine ⟨⟨hn,fun h=>by omega,fun h=>by omega,fun _=>h0⟩,?_⟩
     rw [h0];rfl
    ·right
     refine ⟨fun hx=>h0 (hx.2.2.2 (by omega)),?_⟩
     rw [bne_iff_ne.2 h0];rfl) (by
  unfold LQ.rmay.l0
  dsimp only
  rw [Tr.rR,zF (by simp only [zN];omega),zc,Tr.rT])
 have hB00:B 0=[]:=by
  show (if 0<e then sgBits e.toNat (l.take 0) else [])=[]
  split<;>rfl
 have pre:∀ r,loopO (fun (d:Int×Int×List UInt8)=>(LQ.rmay.l0 l (k':Int) e d.1 d.2.1 d.2.2).run) (((0:Nat):Int),((B 0).length:Int),pk (B 0))=some r->LQ.rmay l (k':Int) e=(Tr.cs Bool PUnit r false () (fun (r7:Bool)=>Tr.ret r7) fun (r8:PUnit)=>Tr.ret true).run:=fun r hr=>by
  rw [hB00] at hr
  unfold LQ.rmay LQ.rmay.t
  rw [Tr.rB]
  refine (bindT (a:=((0:Int),([]:List UInt8))) rfl).trans ?_
  rw [Tr.rB]
  exact bindT hr
 rcases key with ⟨k1,k2⟩|⟨k1,k2⟩
 ·refine .inl ⟨fun n hn=>?_,pre _ k1⟩
  obtain ⟨i,hi,rfl⟩:=List.getElem_of_mem hn
  have:=k2 i hi
  rw [getD_lt _ _ hi] at this
  exact this
 ·refine .inr ⟨fun hall=>k2 fun i hi=>hall _ (by rw [getD_lt _ _ hi];exact List.getElem_mem hi),pre _ k1⟩
end
section
set_option maxRecDepth 10000
open Go.LM
theorem itB_len (k e n:Int) (hk:0<=k/\k<=30) (he:e<=31) (h:ItOK k e n):(itB k e n).length<=16777250:=by
 unfold itB
 split
 ·rename_i hn
  have:=h.2.1 hn
  unfold riB
  rw [zL,unaB_len,zG]
  generalize zz n / 2 ^ k.toNat=q at this
  omega
 ·split
  ·rw [zG];omega
  ·simp
theorem flat_len {α:Type} (g:α->List Bool) (c:Nat):∀ (l:List α),(∀ x∈l,(g x).length<=c)->(l.flatMap g).length<=l.length*c
 | [],_=>by simp
 |x::l,h=>by
  have h1:=flat_len g c l (fun y hy=>h y (List.mem_cons_of_mem _ hy))
  have h2:=h x (by simp)
  rw [List.flatMap_cons,zL,List.length_cons,Nat.add_mul,Nat.one_mul];omega
theorem parts_len (m n o:Nat) (ps es l:List Int) (N:Nat) (hm:m<=1) (hll:l.length=N*n - o) (h:∀ i,i<N->(ptG m ps es l o n i).length<=10+(cutN l o n i).length*16777250):∀ i,i<=N->((List.range i).flatMap (ptG m ps es l o n)).length<=i*10+(i*n - o)*16777250:=by
 intro i
 induction i with
 |zero=>intro _;simp
 |succ i ih=>
  intro hi
  have h1:=ih (by omega)
  have h2:=h i (by omega)
  rw [cutN_len l o n i N (by omega) hll] at h2
  rw [List.range_succ,List.flatMap_append,zL]
  simp only [List.flatMap_cons,List.flatMap_nil,List.append_nil]
  have hin:i*n+n=(i+1)*n:=by rw [Nat.add_mul,Nat.one_mul]
  generalize hA:i*n=A at *
  generalize hB:(i+1)*n=B at *
  have:(A - o)*16777250+(B - o - (A - o))*16777250=(B - o)*16777250:=by rw [←Nat.add_mul];congr 1;omega
  omega
theorem rEnc1_dec (m ro block o:Nat) (ps es l:List Int) (bs:List Bool) (rc:RcOK m ro ps es block o) (hck:LQ.rCheck ((m:Int),(ro:Int),ps,es,()) (block:Int) (o:Int)=some 0) (hl:l.length=block - o) (hr:∀ n∈l,inR n) (hbig:bs.length+6+2 ^ ro*10+l.length*16777250<=70368744177664) :
  (RiOK m ro ps es block o l/\LQ.rEnc1 (((m:Int),(ro:Int),ps,es,()),(block:Int),(o:Int),l) (bs.length:Int) (pk bs)=some (0,((bs.length+(riceB m ro ps es (block / 2 ^ ro) o l).length:Nat):Int),pk (bs++riceB m ro ps es (block / 2 ^ ro) o l)))
  \/ (¬ RiOK m ro ps es block o l/\LQ.rEnc1 (((m:Int),(ro:Int),ps,es,()),(block:Int),(o:Int),l) (bs.length:Int) (pk bs)=some (60,(bs.length:Int),pk bs)):=by
 obtain ⟨hm,ro15,b1,b2,o32,dv,ge,lp,le,kk⟩:=rc
 have hob:o<=block:=Nat.le_trans ge (Nat.div_le_self _ _)
 have hro':2 ^ ro<=2 ^ 15:=Nat.pow_le_pow_right (by decide) ro15
 have hcut:∀ i:Nat,i<2 ^ ro->LQ.rcut l ((m:Int),(ro:Int),ps,es,()) (block:Int) (o:Int) (i:Int)=some (cutN l o (block / 2 ^ ro) i):=fun i hi=>rcut_eq l m ro ps es block o i ro15 b2 ge dv hl hi
 have hll:l.length=2 ^ ro*(block / 2 ^ ro) - o:=by rw [Nat.mul_comm,dv,hl]
 generalize hn:block / 2 ^ ro=n at *
 generalize hN:2 ^ ro=N at *
 have hcl:∀ i,i<N->(cutN l o n i).length<=l.length:=fun i hi=>by
  unfold cutN
  rw [List.length_take,List.length_drop];omega
 have hcm:∀ i,∀ x∈cutN l o n i,x∈l:=fun i x hx=>List.mem_of_mem_drop (List.mem_of_mem_take hx)
 have hk30:∀ i,i<N->0<=ps.getD i 0/\ps.getD i 0<=30:=fun i hi=>by
  have:=kk i hi
  have h32:2 ^ (4+m)<=32:=by rcases hm with rfl|rfl<;>decide
  omega
 have key:=loopO_ex2 (f:=fun (d:Int×Int×List UInt8×Int×Int×List Int×List Int)=>(LQ.rEnc1.l0 (((m:Int),(ro:Int),ps,es,()),(block:Int),(o:Int),l) d.1 d.2.1 d.2.2.1 d.2.2.2.1 d.2.2.2.2.1 d.2.2.2.2.2.1 d.2.2.2.2.2.2).run)
  (fun i=>∀ x∈cutN l o n i,ItOK (ps.getD i 0) (es.getD i 0) x) (.inl ((60:Int),(bs.length:Int),pk bs)) (.inr ((bs.length:Int),pk bs,(m:Int),(ro:Int),ps,es)) N (fun i=>((i:Int),(bs.length:Int),pk bs,(m:Int),(ro:Int),ps,es)) (fun i hi=>by
   have hmay:=rmay_dec (cutN l o n i) (ps.getD i 0) (es.getD i 0) (hk30 i hi) ⟨(kk i hi).2.2.1,(kk i hi).2.2.2.1⟩ (by have:=hcl i hi;omega) (fun x hx=>hr x (hcm i x hx))
   unfold LQ.rEnc1.l0
   dsimp only
   rw [Tr.rR,zT (by simp only [zN];omega),zC,Tr.rN _ (by simp only [zN];omega),Tr.rB,hcut i hi,zE,Tr.rN _ (by simp only [zN];omega),Tr.rB,Int.toNat_natCast,w64_id (x:=(i:Int)+1) (by omega)]
   rcases hmay with ⟨h1,h2⟩|⟨h1,h2⟩
   ·exact .inl ⟨h1,by rw [h2];rfl⟩
   ·exact .inr ⟨h1,by rw [h2];rfl⟩) (by
   unfold LQ.rEnc1.l0
   dsimp only
   rw [Tr.rR,zF (by simp only [zN];omega),zc,Tr.rT])
 have pre:∀ r,loopO (fun (d:Int×Int×List UInt8×Int×Int×List Int×List Int)=>(LQ.rEnc1.l0 (((m:Int),(ro:Int),ps,es,()),(block:Int),(o:Int),l) d.1 d.2.1 d.2.2.1 d.2.2.2.1 d.2.2.2.2.1 d.2.2.2.2.2.1 d.2.2.2.2.2.2).run) ((0:Int),(bs.length:Int),pk bs,(m:Int),(ro:Int),ps,es)=some r->∃ k1 k2,LQ.rEnc1 (((m:Int),(ro:Int),ps,es,()),(block:Int),(o:Int),l) (bs.length:Int) (pk bs)=(Tr.cs (Int×Int×List UInt8) (Int×List UInt8×Int×Int×List Int×List Int) r ((0:Int),(0:Int),[]) ((0:Int),[],(0:Int),(0:Int),[],[]) k1 k2).run
   /\ (∀ e a b,(k1 (e,a,b)).run=some (e,a,b))
   /\ k2=(fun (r5:Int×List UInt8×Int×Int×List Int×List Int)=>Tr.bind (Int×Int×List UInt8) (LQ.put1 (IntKind.u64.wrap r5.2.2.1,(2:Int)) r5.1 r5.2.1) ((0:Int),(0:Int),[]) fun (r6:Int×Int×List UInt8)=>Tr.bind (Int×Int×List UInt8) (LQ.put1 (IntKind.u64.wrap r5.2.2.2.1,(4:Int)) r6.2.1 r6.2.2) ((0:Int),(0:Int),[]) fun (r7:Int×Int×List UInt8)=>Tr.bind (Int×List UInt8) (loopO (fun (d:Int×Int×(Int×Int×List Int×List Int)×List UInt8)=>(LQ.rEnc1.l1 (((m:Int),(ro:Int),ps,es,()),(block:Int),(o:Int),l) r5 d.1 d.2.1 d.2.2.1 d.2.2.2).run) ((0:Int),r7.2.1,(r5.2.2.1,r5.2.2.2.1,r5.2.2.2.2.1,r5.2.2.2.2.2),r7.2.2)) ((0:Int),[]) fun (r18:Int×List UInt8)=>Tr.ret ((0:Int),r18.1,r18.2)):=fun r hr0=>by
  refine ⟨fun (r4:Int×Int×List UInt8)=>Tr.ret (r4.1,r4.2.1,r4.2.2),_,?_,?_,rfl⟩
  ·unfold LQ.rEnc1 LQ.rEnc1.t
   dsimp only
   rw [Tr.rR,zc,Tr.rB]
   refine (bindT hck).trans ?_
   have hw:w64 ((block:Int) - (o:Int))=((block - o:Nat):Int):=by rw [w64_id (by omega)];omega
   rw [Tr.rR,show ((0:Int) != 0)=false from rfl,zc,hw,hl,Tr.rR,show (Int.ofNat (block - o) != ((block - o:Nat):Int))=false from bne_self_eq_false _,zc,Tr.rB]
   exact bindT hr0
  ·intro e a b;rfl
 rcases key with ⟨k1,k2⟩|⟨k1,k2⟩
 rotate_left
 ·right
  refine ⟨fun ri=>k2 fun i hi=>?_,?_⟩
  ·have:=ri.pt i (by rw [hN];exact hi)
   rw [hN,hn] at this
   exact this.it
  obtain ⟨q1,q2,h1,h2,_⟩:=pre _ k1
  rw [h1,Tr.run_csl,h2]
 left
 have pt:∀ i,i<N->PtOK (4+m) (ps.getD i 0) (es.getD i 0) (cutN l o n i):=fun i hi=>by
  have a:=kk i hi
  exact ⟨by rcases hm with rfl|rfl<;>simp,a.1,a.2.1,a.2.2.1,a.2.2.2.1,a.2.2.2.2,k2 i hi⟩
 refine ⟨⟨hm,ro15,b1,b2,o32,by rw [hN,hn];exact dv,by rw [hN,hn];exact ge,by rw [hN];exact lp,by rw [hN];exact le,hl,fun i hi=>by rw [hN] at hi ⊢;rw [hn];exact pt i hi⟩,?_⟩
 obtain ⟨q1,q2,h1,_,h3⟩:=pre _ k1
 have hGl:∀ i,i<N->(ptG m ps es l o n i).length<=10+(cutN l o n i).length*16777250:=fun i hi=>by
  have a:=kk i hi
  have hf:=flat_len (itB (ps.getD i 0) (es.getD i 0)) 16777250 (cutN l o n i) (fun x hx=>itB_len _ _ _ (hk30 i hi) a.2.2.2.1 (k2 i hi x hx))
  unfold ptG ptB
  rw [zL]
  have:(if es.getD i 0<0 then bitsOf (ps.getD i 0).toNat (4+m) else bitsOf (2 ^ (4+m) - 1) (4+m)++bitsOf (es.getD i 0).toNat 5).length<=10:=by
   split
   ·rw [zG];omega
   ·rw [zL,zG,zG];omega
  omega
 have hPl:=parts_len m n o ps es l N (by omega) hll hGl
 have hp1:=put1_eq bs m 2 (by rcases hm with rfl|rfl<;>decide) (by decide) (by omega)
 have hb1:(bs++bitsOf m 2).length=bs.length+2:=by rw [zL,zG]
 have hp2:=put1_eq (bs++bitsOf m 2) ro 4 (by omega) (by decide) (by omega)
 rw [hb1] at hp2
 rw [h1,Tr.run_csr,h3]
 dsimp only
 have wm:IntKind.u64.wrap (m:Int)=(m:Int):=u64_id (by omega)
 have wr:IntKind.u64.wrap (ro:Int)=(ro:Int):=u64_id (by omega)
 rw [Tr.rB,wm,wr]
 refine (bindT hp1).trans ?_
 dsimp only
 rw [Tr.rB]
 refine (bindT hp2).trans ?_
 dsimp only
 rw [Tr.rB]
 generalize hBB:bs++bitsOf m 2++bitsOf ro 4=BB
 have hBl:BB.length=bs.length+6:=by rw [←hBB,zL,hb1,zG]
 have hlo:=loopO_steps (f:=fun (d:Int×Int×(Int×Int×List Int×List Int)×List UInt8)=>(LQ.rEnc1.l1 (((m:Int),(ro:Int),ps,es,()),(block:Int),(o:Int),l) ((bs.length:Int),pk bs,(m:Int),(ro:Int),ps,es) d.1 d.2.1 d.2.2.1 d.2.2.2).run)
  (fun i=>((i:Int),((BB.length+((List.range i).flatMap (ptG m ps es l o n)).length:Nat):Int),((m:Int),(ro:Int),ps,es),pk (BB++(List.range i).flatMap (ptG m ps es l o n)))) (r:=(((BB.length+((List.range N).flatMap (ptG m ps es l o n)).length:Nat):Int),pk (BB++(List.range N).flatMap (ptG m ps es l o n)))) N (fun i hi=>by
   have a:=kk i hi
   have hlen:=hPl i (by omega)
   have hlenS:=hPl (i+1) hi
   have hcl':=hcl i hi
   have hiN:(i+1)*n - o<=l.length:=by
    rw [hll]
    have:(i+1)*n<=N*n:=Nat.mul_le_mul_right n hi
    omega
   have hiK:((i+1)*n - o)*16777250<=l.length*16777250:=Nat.mul_le_mul_right _ hiN
   have hiK2:(i*n - o)*16777250<=l.length*16777250:=Nat.mul_le_mul_right _ (by
    have:i*n<=(i+1)*n:=Nat.mul_le_mul_right n (by omega)
    omega)
   have hw5:w64 ((4:Int)+(m:Int))=((4+m:Nat):Int):=by rw [w64_id (by omega)];omega
   generalize hX:BB++(List.range i).flatMap (ptG m ps es l o n)=X
   have hXl:X.length=BB.length+((List.range i).flatMap (ptG m ps es l o n)).length:=by rw [←hX,zL]
   have hXb:X.length+10+(cutN l o n i).length*16777250<=70368744177664:=by
    have e1:((List.range (i+1)).flatMap (ptG m ps es l o n)).length<=(i+1)*10+((i+1)*n - o)*16777250:=hlenS
    rw [cutN_len l o n i N hi hll]
    have hin:i*n+n=(i+1)*n:=by rw [Nat.add_mul,Nat.one_mul]
    generalize i*n=A at *
    generalize (i+1)*n=B at *
    have:(A - o)*16777250+(B - o - (A - o))*16777250=(B - o)*16777250:=by rw [←Nat.add_mul];congr 1;omega
    omega
   rw [←hXl]
   generalize hH:(if es.getD i 0<0 then bitsOf (ps.getD i 0).toNat (4+m) else bitsOf (2 ^ (4+m) - 1) (4+m)++bitsOf (es.getD i 0).toNat 5)=H
   have hHl:H.length<=10:=by
    rw [←hH]
    split
    ·rw [zG];omega
    ·rw [zL,zG,zG];omega
   have hG:ptG m ps es l o n i=H++(cutN l o n i).flatMap (itB (ps.getD i 0) (es.getD i 0)):=by unfold ptG ptB;rw [hH]
   have hpw:2 ^ (4+m)<=32:=by rcases hm with rfl|rfl<;>decide
   have hpw2:16<=2 ^ (4+m):=by rcases hm with rfl|rfl<;>decide
   have hinner:=loopO_steps (f:=fun (d:Int×Int×(Int×Int×List Int×List Int)×List UInt8)=>(LQ.rEnc1.l2 ((bs.length:Int),pk bs,(m:Int),(ro:Int),ps,es) (i:Int) ((m:Int),(ro:Int),ps,es) (cutN l o n i) d.1 d.2.1 d.2.2.1 d.2.2.2).run)
    (fun j=>((j:Int),((X.length+H.length+(((cutN l o n i).take j).flatMap (itB (ps.getD i 0) (es.getD i 0))).length:Nat):Int),((m:Int),(ro:Int),ps,es),pk (X++H++((cutN l o n i).take j).flatMap (itB (ps.getD i 0) (es.getD i 0)))))
    (r:=(((X.length+H.length+((cutN l o n i).flatMap (itB (ps.getD i 0) (es.getD i 0))).length:Nat):Int),((m:Int),(ro:Int),ps,es),pk (X++H++(cutN l o n i).flatMap (itB (ps.getD i 0) (es.getD i 0))))) (cutN l o n i).length (fun j hj=>by
     have hx:ItOK (ps.getD i 0) (es.getD i 0) ((cutN l o n i).getD j 0):=k2 i hi _ (by rw [getD_lt _ _ hj];exact List.getElem_mem hj)
     have hfl:=flat_len (itB (ps.getD i 0) (es.getD i 0)) 16777250 ((cutN l o n i).take j) (fun x hx=>itB_len _ _ _ (hk30 i hi) a.2.2.2.1 (k2 i hi x (List.mem_of_mem_take hx)))
     have hfl2:((cutN l o n i).take j).length*16777250<=(cutN l o n i).length*16777250:=Nat.mul_le_mul_right _ (by rw [List.length_take];omega)
     have hsp:((cutN l o n i).take (j+1)).flatMap (itB (ps.getD i 0) (es.getD i 0))=((cutN l o n i).take j).flatMap (itB (ps.getD i 0) (es.getD i 0))++itB (ps.getD i 0) (es.getD i 0) ((cutN l o n i).getD j 0):=by
      rw [List.take_succ_eq_append_getElem hj,List.flatMap_append,getD_lt _ _ hj];simp
     have hl2:(((cutN l o n i).take (j+1)).flatMap (itB (ps.getD i 0) (es.getD i 0))).length=(((cutN l o n i).take j).flatMap (itB (ps.getD i 0) (es.getD i 0))).length+(itB (ps.getD i 0) (es.getD i 0) ((cutN l o n i).getD j 0)).length:=by rw [hsp,zL]
     rw [hl2,hsp]
     generalize hY:X++H++((cutN l o n i).take j).flatMap (itB (ps.getD i 0) (es.getD i 0))=Y
     have hYl:Y.length=X.length+H.length+(((cutN l o n i).take j).flatMap (itB (ps.getD i 0) (es.getD i 0))).length:=by rw [←hY,zL,zL]
     rw [←List.append_assoc,hY,←Nat.add_assoc (X.length+H.length),←hYl]
     unfold LQ.rEnc1.l2
     dsimp only
     rw [Tr.rR,zT (p:=(j:Int)<Int.ofNat (cutN l o n i).length) (by simp only [zN];omega),zC,Tr.rN _ (by simp only [zN];omega),Tr.rB,Int.toNat_natCast,Int.toNat_natCast,w64_id (x:=(j:Int)+1) (by omega)]
     refine (bindT (a:=(((Y.length+(itB (ps.getD i 0) (es.getD i 0) ((cutN l o n i).getD j 0)).length:Nat):Int),((m:Int),(ro:Int),ps,es),pk (Y++itB (ps.getD i 0) (es.getD i 0) ((cutN l o n i).getD j 0)))) ?_).trans rfl
     have hke:=hk30 i hi
     have hee:=a.2.2
     generalize ps.getD i 0=k at *
     generalize es.getD i 0=e at *
     generalize (cutN l o n i).getD j 0=x at *
     by_cases hneg:e<0
     ·obtain ⟨k',rfl⟩:∃ k':Nat,k=(k':Int):=⟨k.toNat,by omega⟩
      have eit:itB (k':Int) e x=riB x k':=by unfold itB;rw [if_pos hneg,Int.toNat_natCast]
      have hz:=hx.2.1 hneg
      rw [Int.toNat_natCast] at hz
      have hri:=Ric1_eq x k' Y hx.1 (by omega) hz (by omega)
      rw [zT hneg,Tr.rR,zC,Tr.rB,hri,eit];rfl
     ·by_cases hpos:0<e
      ·obtain ⟨e',rfl⟩:∃ e':Nat,e=(e':Int):=⟨e.toNat,by omega⟩
       have eit:itB k (e':Int) x=bitsOf (two64 x) e':=by unfold itB;rw [if_neg hneg,if_pos hpos,Int.toNat_natCast]
       have hf:=hx.2.2.1 hpos
       rw [Int.toNat_natCast] at hf
       have hs:=sig1_eq Y x e' (by omega) (by omega) hf (by omega)
       rw [zF (p:=((e':Nat):Int)<0) hneg,Tr.rR,zc,Tr.rB,zT (p:=((e':Nat):Int)>0) hpos,Tr.rR,zC,Tr.rB,hs,eit,zG];rfl
      ·have eit:itB k e x=[]:=by unfold itB;rw [if_neg hneg,if_neg hpos]
       rw [zF (p:=e<0) hneg,Tr.rR,zc,Tr.rB,zF (p:=e>0) hpos,Tr.rR,zc,eit,List.append_nil];rfl) (by
     unfold LQ.rEnc1.l2
     dsimp only
     rw [Tr.rR,zF (by simp only [zN];omega),zc,Tr.rT,List.take_of_length_le (Nat.le_refl _)])
   simp only [List.take_zero,List.flatMap_nil,List.length_nil,Nat.add_zero,List.append_nil] at hinner
   have hnext:(List.range (i+1)).flatMap (ptG m ps es l o n)=(List.range i).flatMap (ptG m ps es l o n)++ptG m ps es l o n i:=by
    rw [List.range_succ,List.flatMap_append];simp
   have hfinB:BB++(List.range (i+1)).flatMap (ptG m ps es l o n)=X++H++(cutN l o n i).flatMap (itB (ps.getD i 0) (es.getD i 0)):=by
    rw [hnext,←List.append_assoc,hX,hG,List.append_assoc]
   have hfinL:BB.length+((List.range (i+1)).flatMap (ptG m ps es l o n)).length=X.length+H.length+((cutN l o n i).flatMap (itB (ps.getD i 0) (es.getD i 0))).length:=by
    have:=congrArg List.length hfinB
    simp only [zL] at this
    omega
   rw [hfinB,hfinL]
   unfold LQ.rEnc1.l1
   dsimp only
   rw [Tr.rR,zT (p:=(i:Int)<Int.ofNat ps.length) (by simp only [zN];omega),zC,Tr.rN _ (by simp only [zN];omega),Tr.rN _ (by simp only [zN];omega),Tr.rB,hw5,Int.toNat_natCast]
   refine (bindT (a:=(((X.length+H.length:Nat):Int),((m:Int),(ro:Int),ps,es),pk (X++H))) (by
    have hke:=hk30 i hi
    generalize ps.getD i 0=k at *
    generalize es.getD i 0=e at *
    by_cases hneg:e<0
    ·obtain ⟨k',rfl⟩:∃ k':Nat,k=(k':Int):=⟨k.toNat,by omega⟩
     have eH:H=bitsOf k' (4+m):=by rw [←hH,if_pos hneg,Int.toNat_natCast]
     have hp:=put1_eq X k' (4+m) (by omega) (by omega) (by omega)
     rw [zT hneg,Tr.rR,zC,Tr.rB,u64_id (x:=(k':Int)) (by omega),hp,eH,zG];rfl
    ·obtain ⟨e',rfl⟩:∃ e':Nat,e=(e':Int):=⟨e.toNat,by omega⟩
     have eH:H=bitsOf (2 ^ (4+m) - 1) (4+m)++bitsOf e' 5:=by rw [←hH,if_neg hneg,Int.toNat_natCast]
     have hp:=put1_eq X (2 ^ (4+m) - 1) (4+m) (by omega) (by omega) (by omega)
     have hX2:(X++bitsOf (2 ^ (4+m) - 1) (4+m)).length=X.length+(4+m):=by rw [zL,zG]
     have hq:=put1_eq (X++bitsOf (2 ^ (4+m) - 1) (4+m)) e' 5 (by omega) (by decide) (by omega)
     rw [hX2] at hq
     have wE:IntKind.u64.wrap (IntKind.u64.wrap ((1:Int)*p2 ((4+m:Nat):Int) 64) - 1)=((2 ^ (4+m) - 1:Nat):Int):=by
      rw [p2_nat _ _ (by omega)]
      generalize 2 ^ (4+m)=q at hpw hpw2
      rw [u64_id (x:=(1:Int)*(q:Int)) (by omega),u64_id (by omega)];omega
     rw [zF hneg,Tr.rR,zc,Tr.rN _ (by omega),Tr.rB,wE]
     refine (bindT hp).trans ?_
     dsimp only
     rw [Tr.rB,u64_id (x:=(e':Int)) (by omega)]
     refine (bindT hq).trans ?_
     rw [eH,zL,zG,zG,←List.append_assoc,Nat.add_assoc X.length (4+m) 5];rfl)).trans ?_
   dsimp only
   rw [Tr.rB]
   refine (bindT (hcut i hi)).trans ?_
   rw [Tr.rB]
   refine (bindT hinner).trans ?_
   rw [Tr.rT,w64_id (x:=(i:Int)+1) (by omega)]
   rfl) (by
   unfold LQ.rEnc1.l1
   dsimp only
   rw [Tr.rR,zF (by simp only [zN];omega),zc,Tr.rT])
 simp only [List.range_zero,List.flatMap_nil,List.length_nil,Nat.add_zero,List.append_nil] at hlo
 have hBB2:bs.length+2+4=BB.length:=by rw [hBl]
 rw [hBB2]
 refine (bindT hlo).trans ?_
 unfold riceB
 rw [Tr.rT,←hN,zL,zL,zG,zG,hBl,←List.append_assoc,←List.append_assoc,hBB]
 have:bs.length+6+((List.range (2 ^ ro)).flatMap (ptG m ps es l o n)).length=bs.length+(2+(4+((List.range (2 ^ ro)).flatMap (ptG m ps es l o n)).length)):=by omega
 rw [this]
end
section
set_option maxRecDepth 10000
open Go.LM
theorem bifBind {A B:Type} (c:Bool) (x y:Option A) (f:A->Option B):(bif c then x else y).bind f=bif c then x.bind f else y.bind f:=by cases c<;>rfl
theorem bifSame {A:Type} (c:Bool) (x:A):(bif c then x else x)=x:=by cases c<;>rfl
theorem ConF_dec (s:List Int) (k o w sf m ro:Int) (p:Nat) (cs ps es:List Int) (h1:1<=p) (h2:p<=63) (hf:∀ n∈s,inR n) (hl:s.length<=1048576) :
  ((∀ n∈s,fitsW p n)/\LQ.ConF s k o w (p:Int) sf cs m ro ps es=some (false,k,o,w,(p:Int),sf,cs,m,ro,ps,es))\/LQ.ConF s k o w (p:Int) sf cs m ro ps es=some (true,k,o,w,(p:Int),sf,cs,m,ro,ps,es):=by
 have key:∃ r,loopO (fun (d:Int×Int×Int×Int×Int×Int×List Int×Int×Int×List Int×List Int)=>(LQ.IdxF.l0 s d.1 d.2.1 d.2.2.1 d.2.2.2.1 d.2.2.2.2.1 d.2.2.2.2.2.1 d.2.2.2.2.2.2.1 d.2.2.2.2.2.2.2.1 d.2.2.2.2.2.2.2.2.1 d.2.2.2.2.2.2.2.2.2.1 d.2.2.2.2.2.2.2.2.2.2).run) ((0:Int),k,o,w,(p:Int),sf,cs,m,ro,ps,es)=some r
   /\ ((r=.inr (k,o,w,(p:Int),sf,cs,m,ro,ps,es)/\∀ n∈s,fitsW p n)\/∃ i:Nat,r=.inl ((i:Int),k,o,w,(p:Int),sf,cs,m,ro,ps,es)):=by
  have hstep:∀ i,i<s.length->(fitsW p (s.getD i 0)/\(LQ.IdxF.l0 s (i:Int) k o w (p:Int) sf cs m ro ps es).run=some (.inl (((i+1:Nat):Int),k,o,w,(p:Int),sf,cs,m,ro,ps,es)))\/(LQ.IdxF.l0 s (i:Int) k o w (p:Int) sf cs m ro ps es).run=some (.inr (.inl ((i:Int),k,o,w,(p:Int),sf,cs,m,ro,ps,es))):=fun i hi=>by
   have hd:=sfits_dec (s.getD i 0) p h1 h2 (hf _ (by rw [getD_lt _ _ hi];exact List.getElem_mem hi))
   unfold LQ.IdxF.l0 LQ.chk1 LQ.chk1.t
   rw [Tr.rR,zT (by simp only [zN];omega),zC,Tr.rN _ (by simp only [zN];omega),Tr.rB,Int.toNat_natCast,Tr.rB,w64_id (x:=(i:Int)+1) (by omega)]
   rcases hd with ⟨a,b⟩|b
   ·exact .inl ⟨a,by rw [b];rfl⟩
   ·exact .inr (by rw [b];rfl)
  have hend:(LQ.IdxF.l0 s (s.length:Int) k o w (p:Int) sf cs m ro ps es).run=some (.inr (.inr (k,o,w,(p:Int),sf,cs,m,ro,ps,es))):=by
   unfold LQ.IdxF.l0
   rw [Tr.rR,zF (by simp only [zN];omega),zc,Tr.rT]
  have go:∀ j i,i+j=s.length->(∀ x,x<i->fitsW p (s.getD x 0))->∃ r,loopO (fun (d:Int×Int×Int×Int×Int×Int×List Int×Int×Int×List Int×List Int)=>(LQ.IdxF.l0 s d.1 d.2.1 d.2.2.1 d.2.2.2.1 d.2.2.2.2.1 d.2.2.2.2.2.1 d.2.2.2.2.2.2.1 d.2.2.2.2.2.2.2.1 d.2.2.2.2.2.2.2.2.1 d.2.2.2.2.2.2.2.2.2.1 d.2.2.2.2.2.2.2.2.2.2).run) ((i:Int),k,o,w,(p:Int),sf,cs,m,ro,ps,es)=some r
    /\ ((r=.inr (k,o,w,(p:Int),sf,cs,m,ro,ps,es)/\∀ n∈s,fitsW p n)\/∃ i:Nat,r=.inl ((i:Int),k,o,w,(p:Int),sf,cs,m,ro,ps,es)):=by
   intro j
   induction j with
   |zero=>
    intro i hi hx
    have:i=s.length:=by omega
    subst this
    refine ⟨_,loopO_done hend,.inl ⟨rfl,fun n hn=>?_⟩⟩
    obtain ⟨x,hx',rfl⟩:=List.getElem_of_mem hn
    have:=hx x hx'
    rw [getD_lt _ _ hx'] at this
    exact this
   |succ j ih=>
    intro i hi hx
    rcases hstep i (by omega) with ⟨a,b⟩|b
    ·obtain ⟨r,h1,h2⟩:=ih (i+1) (by omega) (fun x hx'=>by
      by_cases e:x=i
      ·rw [e];exact a
      ·exact hx x (by omega))
     exact ⟨r,(loopO_next (f:=fun (d:Int×Int×Int×Int×Int×Int×List Int×Int×Int×List Int×List Int)=>(LQ.IdxF.l0 s d.1 d.2.1 d.2.2.1 d.2.2.2.1 d.2.2.2.2.1 d.2.2.2.2.2.1 d.2.2.2.2.2.2.1 d.2.2.2.2.2.2.2.1 d.2.2.2.2.2.2.2.2.1 d.2.2.2.2.2.2.2.2.2.1 d.2.2.2.2.2.2.2.2.2.2).run) b).trans h1,h2⟩
    ·exact ⟨_,loopO_done b,.inr ⟨i,rfl⟩⟩
  exact go s.length 0 (by omega) (fun x hx=>by omega)
 obtain ⟨r,h1,h2⟩:=key
 have hC:LQ.ConF s k o w (p:Int) sf cs m ro ps es=(Tr.cs (Int×Int×Int×Int×Int×Int×List Int×Int×Int×List Int×List Int) (Int×Int×Int×Int×Int×List Int×Int×Int×List Int×List Int) r ((0:Int),(0:Int),(0:Int),(0:Int),(0:Int),(0:Int),[],(0:Int),(0:Int),[],[]) ((0:Int),(0:Int),(0:Int),(0:Int),(0:Int),[],(0:Int),(0:Int),[],[]) (fun (r2:Int×Int×Int×Int×Int×Int×List Int×Int×Int×List Int×List Int)=>Tr.ret (r2.1,r2.2.1,r2.2.2.1,r2.2.2.2.1,r2.2.2.2.2.1,r2.2.2.2.2.2.1,r2.2.2.2.2.2.2.1,r2.2.2.2.2.2.2.2.1,r2.2.2.2.2.2.2.2.2.1,r2.2.2.2.2.2.2.2.2.2.1,r2.2.2.2.2.2.2.2.2.2.2)) fun (r3:Int×Int×Int×Int×Int×List Int×Int×Int×List Int×List Int)=>Tr.ret ((-1:Int),r3.1,r3.2.1,r3.2.2.1,r3.2.2.2.1,r3.2.2.2.2.1,r3.2.2.2.2.2.1,r3.2.2.2.2.2.2.1,r3.2.2.2.2.2.2.2.1,r3.2.2.2.2.2.2.2.2.1,r3.2.2.2.2.2.2.2.2.2)).run.bind (fun r0=>some (decide (r0.1>=(0:Int)),r0.2.1,r0.2.2.1,r0.2.2.2.1,r0.2.2.2.2.1,r0.2.2.2.2.2.1,r0.2.2.2.2.2.2.1,r0.2.2.2.2.2.2.2.1,r0.2.2.2.2.2.2.2.2.1,r0.2.2.2.2.2.2.2.2.2.1,r0.2.2.2.2.2.2.2.2.2.2)):=by
  unfold LQ.ConF LQ.ConF.t LQ.IdxF LQ.IdxF.t
  rw [Tr.rB,Tr.rB]
  exact congrArg (fun x=>Option.bind x _) (bindT h1)
 rcases h2 with ⟨rfl,h3⟩|⟨i,rfl⟩
 ·left
  refine ⟨h3,?_⟩
  rw [hC,Tr.run_csr];rfl
 ·right
  rw [hC,Tr.run_csl,Tr.rT,zE]
  rw [zT (by show ((i:Int))>=0;omega)]
structure CkOK (s:Sb) (W b:Nat):Prop where
 b1:1<=b
 b2:b<=65535
 w1:1<=W
 w2:W<=33
 ws:s.wst<W
 k3:s.k<=3
 low:s.k<2->s.o=0/\s.m=0/\s.ro=0/\s.ps=[]/\s.es=[]
 flat:s.k<=2->s.pr=0/\s.sf=0/\s.cs=[]
 fix:s.k=2->s.o<=4
 lpc:s.k=3->1<=s.o/\s.o<=32/\1<=s.pr/\s.pr<=15/\s.sf<=15/\s.cs.length=s.o/\∀ c∈s.cs,fitsW s.pr c
 ob:s.o<=b
 rc:2<=s.k->RcOK s.m s.ro s.ps s.es b s.o/\LQ.rCheck ((s.m:Int),(s.ro:Int),s.ps,s.es,()) (b:Int) (s.o:Int)=some 0
theorem Check_bad (k o w p sf m ro:Int) (cs ps es:List Int) (b:Nat) (W:Int) (hb:b<=65535) (h0:¬ (1<=b/\1<=W/\W<=33/\0<=w/\w<W)):LQ.Check (k,o,w,p,sf,cs,(m,ro,ps,es,()),()) (b:Int) W=some 60:=by
 unfold LQ.Check LQ.Check.t
 dsimp only
 rw [Tr.rB]
 refine (bindT (a:=(true,k,o,w,p,sf,cs,m,ro,ps,es)) ?_).trans rfl
 simp only [Tr.rR,Tr.rT,cond_eq_ite,decide_eq_true_eq]
 repeat' split
 all_goals first|rfl|(rw [zT (by omega)])|(exfalso;omega)
theorem Check_lpc0 (o p sf m ro:Int) (cs ps es:List Int) (b W w:Nat) (hb:1<=b/\b<=65535) (hW:1<=W/\W<=33) (hw:w<W) (h1:¬ (1<=o/\o<=32/\1<=p/\p<=15/\0<=sf/\sf<=15/\(cs.length:Int)=o)):LQ.Check (3,o,(w:Int),p,sf,cs,(m,ro,ps,es,()),()) (b:Int) (W:Int)=some 60:=by
 have d1:decide ((b:Int)<1)=false:=zF (by omega)
 have d2:decide ((b:Int)>65535)=false:=zF (by omega)
 have d3:decide ((W:Int)<1)=false:=zF (by omega)
 have d4:decide ((W:Int)>33)=false:=zF (by omega)
 have d5:decide ((w:Int)<0)=false:=zF (by omega)
 have d6:decide ((w:Int)>=(W:Int))=false:=zF (by omega)
 unfold LQ.Check LQ.Check.t
 simp only [Tr.rB,Tr.rR,Tr.rT,Tr.run_csl,Tr.run_csr,bifBind,zE,zC,zc,Int.reduceBEq,Int.reduceLE,Int.reduceGE,decide_true,decide_false,bifSame,d1,d2,d3,d4,d5,d6,Bool.not_false,Bool.not_true]
 by_cases c1:o>=1
 rotate_left
 ·rw [zF c1];rfl
 rw [zT c1,zC]
 by_cases c2:o<=32
 rotate_left
 ·rw [zF c2];rfl
 rw [zT c2,zC]
 by_cases c3:p>=1
 rotate_left
 ·rw [zF c3];rfl
 rw [zT c3,zC]
 by_cases c4:p<=15
 rotate_left
 ·rw [zF c4];rfl
 rw [zT c4,zC]
 by_cases c5:sf>=0
 rotate_left
 ·rw [zF c5];rfl
 rw [zT c5,zC]
 by_cases c6:sf<=15
 rotate_left
 ·rw [zF c6];rfl
 rw [zT c6,zC]
 rw [show (Int.ofNat cs.length == o)=false from beq_eq_false_iff_ne.2 fun e=>h1 ⟨c1,c2,c3,c4,c5,c6,e⟩]
 rfl
theorem Check_lpc1 (m ro:Int) (o p sf:Nat) (cs ps es:List Int) (b W w:Nat) (hb:1<=b/\b<=65535) (hW:1<=W/\W<=33) (hw:w<W) (ho:1<=o/\o<=32) (hp:1<=p/\p<=15) (hs:sf<=15) (hl:cs.length=o) (cv:Bool) (hC:LQ.ConF cs 3 (o:Int) (w:Int) (p:Int) (sf:Int) cs m ro ps es=some (cv,3,(o:Int),(w:Int),(p:Int),(sf:Int),cs,m,ro,ps,es)) :
  LQ.Check (3,(o:Int),(w:Int),(p:Int),(sf:Int),cs,(m,ro,ps,es,()),()) (b:Int) (W:Int)=bif cv then some 60 else bif decide ((o:Int)>(b:Int)) then some 60 else (LQ.rCheck (m,ro,ps,es,()) (b:Int) (o:Int)).bind fun e=>bif e != 0 then some 60 else some 0:=by
 have d1:decide ((b:Int)<1)=false:=zF (by omega)
 have d2:decide ((b:Int)>65535)=false:=zF (by omega)
 have d3:decide ((W:Int)<1)=false:=zF (by omega)
 have d4:decide ((W:Int)>33)=false:=zF (by omega)
 have d5:decide ((w:Int)<0)=false:=zF (by omega)
 have d6:decide ((w:Int)>=(W:Int))=false:=zF (by omega)
 have e1:decide ((o:Int)>=1)=true:=zT (by omega)
 have e2:decide ((o:Int)<=32)=true:=zT (by omega)
 have e3:decide ((p:Int)>=1)=true:=zT (by omega)
 have e4:decide ((p:Int)<=15)=true:=zT (by omega)
 have e5:decide ((sf:Int)>=0)=true:=zT (by omega)
 have e6:decide ((sf:Int)<=15)=true:=zT (by omega)
 have e7:(Int.ofNat cs.length == (o:Int))=true:=beq_iff_eq.2 (by simp only [zN];omega)
 unfold LQ.Check LQ.Check.t
 simp only [Tr.rB,Tr.rR,Tr.rT,Tr.run_csl,Tr.run_csr,bifBind,zE,zC,zc,Int.reduceBEq,Int.reduceLE,Int.reduceGE,decide_true,decide_false,bifSame,d1,d2,d3,d4,d5,d6,Bool.not_false,Bool.not_true,e1,e2,e3,e4,e5,e6,e7,hC]
 cases cv with
 |true=>rfl
 |false=>
  simp only [Bool.not_false,Bool.not_true,zC,zc]
  cases LQ.rCheck (m,ro,ps,es,()) (b:Int) (o:Int)<;>rfl
theorem Check_fix1 (m ro:Int) (o:Nat) (ps es:List Int) (b W w:Nat) (hb:1<=b/\b<=65535) (hW:1<=W/\W<=33) (hw:w<W) (ho:o<=4) :
  LQ.Check (2,(o:Int),(w:Int),0,0,[],(m,ro,ps,es,()),()) (b:Int) (W:Int)=bif decide ((o:Int)>(b:Int)) then some 60 else (LQ.rCheck (m,ro,ps,es,()) (b:Int) (o:Int)).bind fun e=>bif e != 0 then some 60 else some 0:=by
 have d1:decide ((b:Int)<1)=false:=zF (by omega)
 have d2:decide ((b:Int)>65535)=false:=zF (by omega)
 have d3:decide ((W:Int)<1)=false:=zF (by omega)
 have d4:decide ((W:Int)>33)=false:=zF (by omega)
 have d5:decide ((w:Int)<0)=false:=zF (by omega)
 have d6:decide ((w:Int)>=(W:Int))=false:=zF (by omega)
 have e1:decide ((o:Int)>=0)=true:=zT (by omega)
 have e2:decide ((o:Int)<=4)=true:=zT (by omega)
 have e7:(Int.ofNat ([]:List Int).length == 0)=true:=rfl
 unfold LQ.Check LQ.Check.t
 simp only [Tr.rB,Tr.rR,Tr.rT,Tr.run_csl,Tr.run_csr,bifBind,zE,zC,zc,Int.reduceBEq,Int.reduceLE,Int.reduceGE,decide_true,decide_false,bifSame,d1,d2,d3,d4,d5,d6,Bool.not_false,Bool.not_true,e1,e2,e7]
 cases LQ.rCheck (m,ro,ps,es,()) (b:Int) (o:Int)<;>rfl
theorem Check_fix0 (o p sf m ro:Int) (cs ps es:List Int) (b W w:Nat) (hb:1<=b/\b<=65535) (hW:1<=W/\W<=33) (hw:w<W) (h1:¬ (0<=o/\o<=4/\p=0/\sf=0/\(cs.length:Int)=0)):LQ.Check (2,o,(w:Int),p,sf,cs,(m,ro,ps,es,()),()) (b:Int) (W:Int)=some 60:=by
 have d1:decide ((b:Int)<1)=false:=zF (by omega)
 have d2:decide ((b:Int)>65535)=false:=zF (by omega)
 have d3:decide ((W:Int)<1)=false:=zF (by omega)
 have d4:decide ((W:Int)>33)=false:=zF (by omega)
 have d5:decide ((w:Int)<0)=false:=zF (by omega)
 have d6:decide ((w:Int)>=(W:Int))=false:=zF (by omega)
 unfold LQ.Check LQ.Check.t
 simp only [Tr.rB,Tr.rR,Tr.rT,Tr.run_csl,Tr.run_csr,bifBind,zE,zC,zc,Int.reduceBEq,Int.reduceLE,Int.reduceGE,decide_true,decide_false,bifSame,d1,d2,d3,d4,d5,d6,Bool.not_false,Bool.not_true]
 by_cases c1:o>=0
 rotate_left
 ·rw [zF c1];rfl
 rw [zT c1,zC]
 by_cases c2:o<=4
 rotate_left
 ·rw [zF c2];rfl
 rw [zT c2,zC]
 by_cases c3:p=0
 rotate_left
 ·rw [show (p == 0)=false from beq_eq_false_iff_ne.2 c3];rfl
 rw [show (p == 0)=true from beq_iff_eq.2 c3,zC]
 by_cases c4:sf=0
 rotate_left
 ·rw [show (sf == 0)=false from beq_eq_false_iff_ne.2 c4];rfl
 rw [show (sf == 0)=true from beq_iff_eq.2 c4,zC]
 rw [show (Int.ofNat cs.length == 0)=false from beq_eq_false_iff_ne.2 fun e=>h1 ⟨c1,c2,c3,c4,e⟩]
 rfl
theorem Check_con (o p sf m ro:Int) (cs ps es:List Int) (b W w:Nat) (hb:1<=b/\b<=65535) (hW:1<=W/\W<=33) (hw:w<W) (h1:¬ (o=0/\p=0/\sf=0/\(cs.length:Int)=0/\m=0/\ro=0/\(ps.length:Int)=0/\(es.length:Int)=0)):LQ.Check (0,o,(w:Int),p,sf,cs,(m,ro,ps,es,()),()) (b:Int) (W:Int)=some 60:=by
 have d1:decide ((b:Int)<1)=false:=zF (by omega)
 have d2:decide ((b:Int)>65535)=false:=zF (by omega)
 have d3:decide ((W:Int)<1)=false:=zF (by omega)
 have d4:decide ((W:Int)>33)=false:=zF (by omega)
 have d5:decide ((w:Int)<0)=false:=zF (by omega)
 have d6:decide ((w:Int)>=(W:Int))=false:=zF (by omega)
 have hB:∃ bv,LQ.bare (0,o,(w:Int),p,sf,cs,(m,ro,ps,es,()),())=some bv/\(bv=true->o=0/\m=0/\ro=0/\(ps.length:Int)=0/\(es.length:Int)=0):=by
  unfold LQ.bare LQ.bare.t
  simp only [Tr.rB,Tr.rR,Tr.rT,bifBind,zE]
  by_cases a1:o=0
  rotate_left
  ·rw [show (o == 0)=false from beq_eq_false_iff_ne.2 a1];exact ⟨false,rfl,fun e=>by cases e⟩
  rw [show (o == 0)=true from beq_iff_eq.2 a1,zC]
  by_cases a2:m=0
  rotate_left
  ·rw [show (m == 0)=false from beq_eq_false_iff_ne.2 a2];exact ⟨false,rfl,fun e=>by cases e⟩
  rw [show (m == 0)=true from beq_iff_eq.2 a2,zC]
  by_cases a3:ro=0
  rotate_left
  ·rw [show (ro == 0)=false from beq_eq_false_iff_ne.2 a3];exact ⟨false,rfl,fun e=>by cases e⟩
  rw [show (ro == 0)=true from beq_iff_eq.2 a3,zC]
  by_cases a4:(ps.length:Int)=0
  rotate_left
  ·rw [show (Int.ofNat ps.length == 0)=false from beq_eq_false_iff_ne.2 a4];exact ⟨false,rfl,fun e=>by cases e⟩
  rw [show (Int.ofNat ps.length == 0)=true from beq_iff_eq.2 a4,zC]
  exact ⟨_,rfl,fun e=>⟨a1,a2,a3,a4,beq_iff_eq.1 e⟩⟩
 obtain ⟨bv,hB1,hB2⟩:=hB
 unfold LQ.Check LQ.Check.t
 simp only [Tr.rB,Tr.rR,Tr.rT,Tr.run_csl,Tr.run_csr,bifBind,zE,zC,zc,Int.reduceBEq,Int.reduceLE,Int.reduceGE,decide_true,decide_false,bifSame,d1,d2,d3,d4,d5,d6,Bool.not_false,Bool.not_true,hB1]
 cases bv with
 |false=>rfl
 |true=>
  have hB3:=hB2 rfl
  simp only [zC]
  by_cases c1:o>=0
  rotate_left
  ·exact absurd hB3.1 (by omega)
  rw [zT c1,zC,zT (p:=o<=4) (by omega),zC]
  by_cases c3:p=0
  rotate_left
  ·rw [show (p == 0)=false from beq_eq_false_iff_ne.2 c3];rfl
  rw [show (p == 0)=true from beq_iff_eq.2 c3,zC]
  by_cases c4:sf=0
  rotate_left
  ·rw [show (sf == 0)=false from beq_eq_false_iff_ne.2 c4];rfl
  rw [show (sf == 0)=true from beq_iff_eq.2 c4,zC]
  rw [show (Int.ofNat cs.length == 0)=false from beq_eq_false_iff_ne.2 fun e=>h1 ⟨hB3.1,c3,c4,e,hB3.2⟩]
  rfl
theorem Check_ver (o p sf m ro:Int) (cs ps es:List Int) (b W w:Nat) (hb:1<=b/\b<=65535) (hW:1<=W/\W<=33) (hw:w<W) (h1:¬ (o=0/\p=0/\sf=0/\(cs.length:Int)=0/\m=0/\ro=0/\(ps.length:Int)=0/\(es.length:Int)=0)):LQ.Check (1,o,(w:Int),p,sf,cs,(m,ro,ps,es,()),()) (b:Int) (W:Int)=some 60:=by
 have d1:decide ((b:Int)<1)=false:=zF (by omega)
 have d2:decide ((b:Int)>65535)=false:=zF (by omega)
 have d3:decide ((W:Int)<1)=false:=zF (by omega)
 have d4:decide ((W:Int)>33)=false:=zF (by omega)
 have d5:decide ((w:Int)<0)=false:=zF (by omega)
 have d6:decide ((w:Int)>=(W:Int))=false:=zF (by omega)
 have hB:∃ bv,LQ.bare (1,o,(w:Int),p,sf,cs,(m,ro,ps,es,()),())=some bv/\(bv=true->o=0/\m=0/\ro=0/\(ps.length:Int)=0/\(es.length:Int)=0):=by
  unfold LQ.bare LQ.bare.t
  simp only [Tr.rB,Tr.rR,Tr.rT,bifBind,zE]
  by_cases a1:o=0
  rotate_left
  ·rw [show (o == 0)=false from beq_eq_false_iff_ne.2 a1];exact ⟨false,rfl,fun e=>by cases e⟩
  rw [show (o == 0)=true from beq_iff_eq.2 a1,zC]
  by_cases a2:m=0
  rotate_left
  ·rw [show (m == 0)=false from beq_eq_false_iff_ne.2 a2];exact ⟨false,rfl,fun e=>by cases e⟩
  rw [show (m == 0)=true from beq_iff_eq.2 a2,zC]
  by_cases a3:ro=0
  rotate_left
  ·rw [show (ro == 0)=false from beq_eq_false_iff_ne.2 a3];exact ⟨false,rfl,fun e=>by cases e⟩
  rw [show (ro == 0)=true from beq_iff_eq.2 a3,zC]
  by_cases a4:(ps.length:Int)=0
  rotate_left
  ·rw [show (Int.ofNat ps.length == 0)=false from beq_eq_false_iff_ne.2 a4];exact ⟨false,rfl,fun e=>by cases e⟩
  rw [show (Int.ofNat ps.length == 0)=true from beq_iff_eq.2 a4,zC]
  exact ⟨_,rfl,fun e=>⟨a1,a2,a3,a4,beq_iff_eq.1 e⟩⟩
 obtain ⟨bv,hB1,hB2⟩:=hB
 unfold LQ.Check LQ.Check.t
 simp only [Tr.rB,Tr.rR,Tr.rT,Tr.run_csl,Tr.run_csr,bifBind,zE,zC,zc,Int.reduceBEq,Int.reduceLE,Int.reduceGE,decide_true,decide_false,bifSame,d1,d2,d3,d4,d5,d6,Bool.not_false,Bool.not_true,hB1]
 cases bv with
 |false=>rfl
 |true=>
  have hB3:=hB2 rfl
  simp only [zC]
  by_cases c1:o>=0
  rotate_left
  ·exact absurd hB3.1 (by omega)
  rw [zT c1,zC,zT (p:=o<=4) (by omega),zC]
  by_cases c3:p=0
  rotate_left
  ·rw [show (p == 0)=false from beq_eq_false_iff_ne.2 c3];rfl
  rw [show (p == 0)=true from beq_iff_eq.2 c3,zC]
  by_cases c4:sf=0
  rotate_left
  ·rw [show (sf == 0)=false from beq_eq_false_iff_ne.2 c4];rfl
  rw [show (sf == 0)=true from beq_iff_eq.2 c4,zC]
  rw [show (Int.ofNat cs.length == 0)=false from beq_eq_false_iff_ne.2 fun e=>h1 ⟨hB3.1,c3,c4,e,hB3.2⟩]
  rfl
theorem Check_oth (k o p sf m ro:Int) (cs ps es:List Int) (b W w:Nat) (hb:1<=b/\b<=65535) (hW:1<=W/\W<=33) (hw:w<W) (h0:k≠0) (h1:k≠1) (h2:k≠2) (h3:k≠3):LQ.Check (k,o,(w:Int),p,sf,cs,(m,ro,ps,es,()),()) (b:Int) (W:Int)=some 60:=by
 have d1:decide ((b:Int)<1)=false:=zF (by omega)
 have d2:decide ((b:Int)>65535)=false:=zF (by omega)
 have d3:decide ((W:Int)<1)=false:=zF (by omega)
 have d4:decide ((W:Int)>33)=false:=zF (by omega)
 have d5:decide ((w:Int)<0)=false:=zF (by omega)
 have d6:decide ((w:Int)>=(W:Int))=false:=zF (by omega)
 have f0:(k == 0)=false:=beq_eq_false_iff_ne.2 h0
 have f1:(k == 1)=false:=beq_eq_false_iff_ne.2 h1
 have f2:(k == 2)=false:=beq_eq_false_iff_ne.2 h2
 have f3:(k == 3)=false:=beq_eq_false_iff_ne.2 h3
 unfold LQ.Check LQ.Check.t
 simp only [Tr.rB,Tr.rR,Tr.rT,Tr.run_csl,Tr.run_csr,bifBind,zE,zC,zc,Int.reduceBEq,Int.reduceLE,Int.reduceGE,decide_true,decide_false,bifSame,d1,d2,d3,d4,d5,d6,Bool.not_false,Bool.not_true,f0,f1,f2,f3]
end
section
set_option maxRecDepth 10000
open Go.LM
theorem nil_iff (l:List Int):l=[]↔(l.length:Int)=0:=by rw [←List.length_eq_zero_iff];omega
theorem Check_dec (k o w p sf m ro:Int) (cs ps es:List Int) (b:Nat) (W:Int) (hb:b<=65535) (hm:inR m) (hcs:∀ c∈cs,inR c) (hcl:cs.length<=1048576) :
  (∃ (s:Sb) (W':Nat),W=(W':Int)/\s.D=(k,o,w,p,sf,cs,(m,ro,ps,es,()),())/\CkOK s W' b/\LQ.Check (k,o,w,p,sf,cs,(m,ro,ps,es,()),()) (b:Int) W=some 0)\/LQ.Check (k,o,w,p,sf,cs,(m,ro,ps,es,()),()) (b:Int) W=some 60:=by
 by_cases h0:1<=b/\1<=W/\W<=33/\0<=w/\w<W
 rotate_left
 ·exact .inr (Check_bad k o w p sf m ro cs ps es b W hb h0)
 obtain ⟨hb1,hW1,hW2,hw1,hw2⟩:=h0
 obtain ⟨W',rfl⟩:∃ W':Nat,W=(W':Int):=⟨W.toNat,by omega⟩
 obtain ⟨w',rfl⟩:∃ w':Nat,w=(w':Int):=⟨w.toNat,by omega⟩
 have hW:1<=W'/\W'<=33:=by omega
 have hww:w'<W':=by omega
 by_cases k3:k=3
 ·subst k3
  by_cases h1:1<=o/\o<=32/\1<=p/\p<=15/\0<=sf/\sf<=15/\(cs.length:Int)=o
  rotate_left
  ·exact .inr (Check_lpc0 o p sf m ro cs ps es b W' w' ⟨hb1,hb⟩ hW hww h1)
  obtain ⟨o1,o2,p1,p2,s1,s2,hol⟩:=h1
  obtain ⟨o',rfl⟩:∃ o':Nat,o=(o':Int):=⟨o.toNat,by omega⟩
  obtain ⟨p',rfl⟩:∃ p':Nat,p=(p':Int):=⟨p.toNat,by omega⟩
  obtain ⟨sf',rfl⟩:∃ sf':Nat,sf=(sf':Int):=⟨sf.toNat,by omega⟩
  rcases ConF_dec cs 3 (o':Int) (w':Int) (sf':Int) m ro p' cs ps es (by omega) (by omega) hcs hcl with ⟨hfit,hC⟩|hC
  rotate_left
  ·exact .inr ((Check_lpc1 m ro o' p' sf' cs ps es b W' w' ⟨hb1,hb⟩ hW hww (by omega) (by omega) (by omega) (by omega) true hC).trans rfl)
  have hk:=Check_lpc1 m ro o' p' sf' cs ps es b W' w' ⟨hb1,hb⟩ hW hww (by omega) (by omega) (by omega) (by omega) false hC
  rw [zc] at hk
  by_cases hob:o'<=b
  rotate_left
  ·right
   rw [hk,zT (by omega)];rfl
  rw [zF (p:=(o':Int)>(b:Int)) (by omega),zc] at hk
  rcases rCheck_dec m ro b o' ps es hm ⟨hb1,hb⟩ (by omega) with ⟨m',ro',rfl,rfl,hrc,hr0⟩|hr
  ·left
   refine ⟨⟨3,o',w',p',sf',m',ro',cs,ps,es⟩,W',rfl,rfl,⟨hb1,hb,hW.1,hW.2,hww,Nat.le_refl 3,fun e=>absurd e (by show ¬ 3<2;decide),fun e=>absurd e (by show ¬ 3<=2;decide),(fun e=>by cases e),fun _=>⟨by show 1<=o';omega,by show o'<=32;omega,by show 1<=p';omega,by show p'<=15;omega,by show sf'<=15;omega,by show cs.length=o';omega,hfit⟩,hob,fun _=>⟨hrc,hr0⟩⟩,?_⟩
   rw [hk,hr0];rfl
  ·right
   rw [hk,hr];rfl
 by_cases k2:k=2
 ·subst k2
  by_cases h1:0<=o/\o<=4/\p=0/\sf=0/\(cs.length:Int)=0
  rotate_left
  ·exact .inr (Check_fix0 o p sf m ro cs ps es b W' w' ⟨hb1,hb⟩ hW hww h1)
  obtain ⟨o1,o2,rfl,rfl,hcs0⟩:=h1
  have:=(nil_iff cs).2 hcs0
  subst this
  obtain ⟨o',rfl⟩:∃ o':Nat,o=(o':Int):=⟨o.toNat,by omega⟩
  have hk:=Check_fix1 m ro o' ps es b W' w' ⟨hb1,hb⟩ hW hww (by omega)
  by_cases hob:o'<=b
  rotate_left
  ·right
   rw [hk,zT (by omega)];rfl
  rw [zF (p:=(o':Int)>(b:Int)) (by omega),zc] at hk
  rcases rCheck_dec m ro b o' ps es hm ⟨hb1,hb⟩ (by omega) with ⟨m',ro',rfl,rfl,hrc,hr0⟩|hr
  ·left
   refine ⟨⟨2,o',w',0,0,m',ro',[],ps,es⟩,W',rfl,rfl,⟨hb1,hb,hW.1,hW.2,hww,(by show 2<=3;decide),fun e=>absurd e (by show ¬ 2<2;decide),fun _=>⟨rfl,rfl,rfl⟩,fun _=>(by show o'<=4;omega),(fun e=>by cases e),hob,fun _=>⟨hrc,hr0⟩⟩,?_⟩
   rw [hk,hr0];rfl
  ·right
   rw [hk,hr];rfl
 by_cases h1:(k=0\/k=1)/\o=0/\p=0/\sf=0/\(cs.length:Int)=0/\m=0/\ro=0/\(ps.length:Int)=0/\(es.length:Int)=0
 ·obtain ⟨hk01,rfl,rfl,rfl,hc0,rfl,rfl,hp0,he0⟩:=h1
  have:=(nil_iff cs).2 hc0
  subst this
  have:=(nil_iff ps).2 hp0
  subst this
  have:=(nil_iff es).2 he0
  subst this
  left
  rcases hk01 with rfl|rfl
  ·exact ⟨⟨0,0,w',0,0,0,0,[],[],[]⟩,W',rfl,rfl,⟨hb1,hb,hW.1,hW.2,hww,Nat.zero_le 3,fun _=>⟨rfl,rfl,rfl,rfl,rfl⟩,fun _=>⟨rfl,rfl,rfl⟩,(fun e=>by cases e),(fun e=>by cases e),Nat.zero_le _,fun e=>absurd e (by show ¬ 2<=0;decide)⟩,Check_eq 0 (.inl rfl) w' b W' ⟨hb1,hb⟩ hW hww⟩
  ·exact ⟨⟨1,0,w',0,0,0,0,[],[],[]⟩,W',rfl,rfl,⟨hb1,hb,hW.1,hW.2,hww,(by show 1<=3;decide),fun _=>⟨rfl,rfl,rfl,rfl,rfl⟩,fun _=>⟨rfl,rfl,rfl⟩,(fun e=>by cases e),(fun e=>by cases e),Nat.zero_le _,fun e=>absurd e (by show ¬ 2<=1;decide)⟩,Check_eq 1 (.inr rfl) w' b W' ⟨hb1,hb⟩ hW hww⟩
 ·right
  by_cases k0:k=0
  ·subst k0
   exact Check_con o p sf m ro cs ps es b W' w' ⟨hb1,hb⟩ hW hww (fun e=>h1 ⟨.inl rfl,e⟩)
  ·by_cases k1:k=1
   ·subst k1
    exact Check_ver o p sf m ro cs ps es b W' w' ⟨hb1,hb⟩ hW hww (fun e=>h1 ⟨.inr rfl,e⟩)
   ·exact Check_oth k o p sf m ro cs ps es b W' w' ⟨hb1,hb⟩ hW hww k0 k1 k2 k3
structure GoOK (s:Sb) (W:Nat) (l:List Int):Prop where
 dv:∀ n∈l,n / ((2 ^ s.wst:Nat):Int)*((2 ^ s.wst:Nat):Int)=n
 ft:∀ n∈l,fitsW W n
 con:s.k=0->∀ n∈l,n=l.getD 0 0
 w31:s.wst<=31
theorem Shift_dec (l:List Int) (wst:Nat) (hw:wst<=33) (hl:l.length<=1048576) (hr:∀ n∈l,inR n):(wst<=31/\(∀ n∈l,n / ((2 ^ wst:Nat):Int)*((2 ^ wst:Nat):Int)=n)/\LQ.Shift l (wst:Int)=some (mids wst l,0))\/LQ.Shift l (wst:Int)=some ([],1):=by
 by_cases h31:wst<=31
 rotate_left
 ·right
  unfold LQ.Shift LQ.Shift.t
  rw [Tr.rB,Tr.rR,zF (by omega),zc,Tr.rT,zE,zT (by omega)];rfl
 have d1:decide ((wst:Int)<0)=false:=zF (by omega)
 have d2:decide ((wst:Int)>31)=false:=zF (by omega)
 have key:=loopO_ex (f:=fun (d:Int×List Int)=>(LQ.Shift.l0 l (wst:Int) d.1 d.2).run) (fun i=>l.getD i 0 / ((2 ^ wst:Nat):Int)*((2 ^ wst:Nat):Int)=l.getD i 0) (.inl (1:Int)) (.inr (mids wst l)) l.length (fun k=>((k:Int),(mids wst l).take k)) (fun k hk=>by
  have hn:inR (l.getD k 0):=hr _ (by rw [getD_lt _ _ hk];exact List.getElem_mem hk)
  have hp:0<2 ^ wst:=Nat.pow_pos (by decide)
  have hrange:-9223372036854775808<=l.getD k 0 / ((2 ^ wst:Nat):Int)*((2 ^ wst:Nat):Int)/\l.getD k 0 / ((2 ^ wst:Nat):Int)*((2 ^ wst:Nat):Int)<9223372036854775808:=by
   unfold inR at hn
   have e:=Int.mul_ediv_add_emod (l.getD k 0) ((2 ^ wst:Nat):Int)
   have h1:=Int.emod_nonneg (l.getD k 0) (b:=((2 ^ wst:Nat):Int)) (by omega)
   have h2:=Int.emod_lt_of_pos (l.getD k 0) (b:=((2 ^ wst:Nat):Int)) (by omega)
   have hq:2 ^ 63=2 ^ wst*2 ^ (63 - wst):=by rw [←Nat.pow_add];congr 1;omega
   rw [Int.mul_comm] at e
   refine ⟨?_,by omega⟩
   have h3:-((2 ^ (63 - wst):Nat):Int)<=l.getD k 0 / ((2 ^ wst:Nat):Int):=by
    rw [Int.le_ediv_iff_mul_le (by omega),Int.neg_mul,←Int.natCast_mul,Nat.mul_comm,←hq]
    exact hn.1
   have h4:=Int.mul_le_mul_of_nonneg_right h3 (show (0:Int)<=((2 ^ wst:Nat):Int) by omega)
   rw [Int.neg_mul,←Int.natCast_mul,Nat.mul_comm,←hq] at h4
   exact h4
  unfold LQ.Shift.l0
  dsimp only
  rw [Tr.rR,zT (by simp only [zN];omega),zC,Tr.rN _ (by simp only [zN];omega),Tr.rN _ (by omega),Tr.rN _ (by omega),p2_nat _ _ (by omega),Int.toNat_natCast,Tr.rR,w64_id hrange]
  by_cases he:l.getD k 0 / ((2 ^ wst:Nat):Int)*((2 ^ wst:Nat):Int)=l.getD k 0
  ·left
   refine ⟨he,?_⟩
   rw [he,bne_self_eq_false,zc,Tr.rN _ (by omega),Tr.rN _ (by simp only [List.length_take,mids_len,List.length_set,List.length_replicate];omega),Tr.rT,w64_id (by omega)]
   have e:(mids wst l).take (k+1)=(mids wst l).take k++[l.getD k 0 / ((2 ^ wst:Nat):Int)]:=by
    rw [List.take_succ_eq_append_getElem (by rw [mids_len];exact hk),getD_lt _ _ hk]
    simp [mids]
   rw [e];rfl
  ·right
   rw [bne_iff_ne.2 he];rfl) (by
  unfold LQ.Shift.l0
  dsimp only
  rw [Tr.rR,zF (by simp only [zN];omega),zc,Tr.rT,List.take_of_length_le (by rw [mids_len];exact Nat.le_refl _)])
 have pre:∀ r,loopO (fun (d:Int×List Int)=>(LQ.Shift.l0 l (wst:Int) d.1 d.2).run) ((0:Int),[])=some r->LQ.Shift l (wst:Int)=(Tr.cs Int (List Int) r (0:Int) [] (fun (r2:Int)=>Tr.ret (([]:List Int),r2)) fun (r3:List Int)=>Tr.ret (r3,(0:Int))).run:=fun r h=>by
  unfold LQ.Shift LQ.Shift.t
  rw [Tr.rB,Tr.rR,d1,zc,Tr.rT,zE,d2,Tr.rR,zc,Tr.rB]
  exact bindT h
 rcases key with ⟨k1,k2⟩|k1
 ·left
  refine ⟨h31,fun n hn=>?_,(pre _ k1).trans rfl⟩
  obtain ⟨i,hi,rfl⟩:=List.getElem_of_mem hn
  have:=k2 i hi
  rw [getD_lt _ _ hi] at this
  exact this
 ·exact .inr ((pre _ k1).trans rfl)
theorem goes_dec (s:Sb) (W:Nat) (l:List Int) (hW:1<=W/\W<=33) (hws:s.wst<W) (hl:l.length<=1048576) (hr:∀ n∈l,inR n):(GoOK s W l/\LQ.goes s.D (W:Int) l=some (mids s.wst l,true))\/∃ x,LQ.goes s.D (W:Int) l=some (x,false):=by
 obtain ⟨k,o,wst,pr,sf,m,ro,cs,ps,es⟩:=s
 simp only at hws
 have hk0:((k:Int) == 0)=decide (k=0):=by rw [Bool.eq_iff_iff,beq_iff_eq,decide_eq_true_eq];omega
 have key:=loopO_ex (f:=(fun (d:Int×Int×Int×Int×Int×Int×List Int×Int×Int×List Int×List Int)=>(LQ.goes.l0 (W:Int) l d.1 d.2.1 d.2.2.1 d.2.2.2.1 d.2.2.2.2.1 d.2.2.2.2.2.1 d.2.2.2.2.2.2.1 d.2.2.2.2.2.2.2.1 d.2.2.2.2.2.2.2.2.1 d.2.2.2.2.2.2.2.2.2.1 d.2.2.2.2.2.2.2.2.2.2).run))
  (fun i=>fitsW W (l.getD i 0)/\(k=0->l.getD i 0=l.getD 0 0)) (.inl false) (.inr ((k:Int),(o:Int),(wst:Int),(pr:Int),(sf:Int),cs,(m:Int),(ro:Int),ps,es)) l.length (fun i=>((i:Int),(k:Int),(o:Int),(wst:Int),(pr:Int),(sf:Int),cs,(m:Int),(ro:Int),ps,es)) (fun i hi=>by
   have hn:inR (l.getD i 0):=hr _ (by rw [getD_lt _ _ hi];exact List.getElem_mem hi)
   have hd:=sfits_dec (l.getD i 0) W hW.1 (by omega) hn
   unfold LQ.goes.l0
   dsimp only
   rw [Tr.rR,zT (by simp only [zN];omega),zC,Tr.rN _ (by simp only [zN];omega),Int.toNat_natCast,Tr.rB,Tr.rB,w64_id (x:=(i:Int)+1) (by omega)]
   rcases hd with ⟨a,b⟩|b
   rotate_left
   ·right;rw [b];rfl
   rw [b,zE,Bool.not_true,Tr.rR,zc,Tr.rR,hk0]
   by_cases e0:k=0
   ·rw [zT e0,zC,Tr.rN _ (by simp only [zN];omega),Tr.rT,zE]
    by_cases e1:l.getD i 0=l.getD 0 0
    ·left
     refine ⟨⟨a,fun _=>e1⟩,?_⟩
     rw [e1,bne_self_eq_false];rfl
    ·right
     rw [bne_iff_ne.2 e1];rfl
   ·left
    refine ⟨⟨a,fun e=>absurd e e0⟩,?_⟩
    rw [zF e0];rfl) (by
   unfold LQ.goes.l0
   dsimp only
   rw [Tr.rR,zF (by simp only [zN];omega),zc,Tr.rT])
 unfold LQ.goes LQ.goes.t Sb.D
 dsimp only
 rw [Tr.rB]
 rcases key with ⟨k1,k2⟩|k1
 rotate_left
 ·right
  refine ⟨[],(bindT k1).trans ?_⟩
  rfl
 have hft:∀ n∈l,fitsW W n:=fun n hn=>by
  obtain ⟨i,hi,rfl⟩:=List.getElem_of_mem hn
  have:=(k2 i hi).1
  rw [getD_lt _ _ hi] at this
  exact this
 have hcon:k=0->∀ n∈l,n=l.getD 0 0:=fun e n hn=>by
  obtain ⟨i,hi,rfl⟩:=List.getElem_of_mem hn
  have:=(k2 i hi).2 e
  rw [getD_lt _ _ hi] at this
  exact this
 rcases Shift_dec l wst (by omega) hl hr with ⟨h31,hdv,hS⟩|hS
 ·left
  refine ⟨⟨hdv,hft,hcon,h31⟩,(bindT k1).trans ?_⟩
  rw [Tr.run_csr,Tr.rB]
  exact (bindT hS).trans rfl
 ·right
  refine ⟨[],(bindT k1).trans ?_⟩
  rw [Tr.run_csr,Tr.rB]
  exact (bindT hS).trans rfl
end
section
set_option maxRecDepth 10000
open Go.LM
abbrev StD:Type:=Int×Int×Int×Int×Int×List Int×Int×Int×List Int×List Int
def Sb.st (s:Sb):StD:=((s.k:Int),(s.o:Int),(s.wst:Int),(s.pr:Int),(s.sf:Int),s.cs,(s.m:Int),(s.ro:Int),s.ps,s.es)
theorem Una1_eq (n:Nat) (bs:List Bool) (hn:n<=16777216) (hb:bs.length<=70368744177664):LQ.Una1 (n:Int) (bs.length:Int) (pk bs)=some (0,((bs.length+(n+1):Nat):Int),pk (bs++unaB n)):=by
 have h:=una1_eq n bs (by omega)
 unfold LQ.Una1 LQ.Una1.t
 have d1:decide ((n:Int)<0)=false:=zF (by omega)
 have d2:decide ((n:Int)>16777216)=false:=zF (by omega)
 rw [Tr.rR,zc,Tr.rB,Tr.rR,d1,zc,Tr.rT,zE,d2]
 dsimp only
 rw [Tr.rR,zc,Tr.rB,h]
 rfl
theorem wst_part (wst:Nat) (bs:List Bool) (st:StD) (hw:wst<=33) (hb:bs.length<=70368744177000) :
  (Tr.br ((wst:Int) == (0:Int)) (Tr.bind (Int×Int×List UInt8) (LQ.put1 ((0:Int),(1:Int)) (bs.length:Int) (pk bs)) ((0:Int),(0:Int),[]) fun (r3:Int×Int×List UInt8)=>Tr.ret (r3.2.1,st,r3.2.2)) (Tr.bind (Int×Int×List UInt8) (LQ.put1 ((1:Int),(1:Int)) (bs.length:Int) (pk bs)) ((0:Int),(0:Int),[]) fun (r4:Int×Int×List UInt8)=>Tr.bind (Int×Int×List UInt8) (LQ.Una1 (w64 ((wst:Int) - (1:Int))) r4.2.1 r4.2.2) ((0:Int),(0:Int),[]) fun (r5:Int×Int×List UInt8)=>Tr.ret (r5.2.1,st,r5.2.2))).run
  = some (((bs.length+(wst+1):Nat):Int),st,pk (bs++wsBits wst)):=by
 rw [Tr.rR]
 by_cases hz:wst=0
 ·subst hz
  have hp2:=put1_eq bs 0 1 (by decide) (by decide) (by omega)
  rw [show (((0:Nat):Int) == 0)=true from rfl,zC,Tr.rB]
  refine (bindT hp2).trans ?_
  rfl
 ·have hp2:=put1_eq bs 1 1 (by decide) (by decide) (by omega)
  have hb2:(bs++bitsOf 1 1).length=bs.length+1:=by rw [zL,zG]
  have hu:=Una1_eq (wst - 1) (bs++bitsOf 1 1) (by omega) (by omega)
  rw [hb2] at hu
  have hw1:w64 ((wst:Int) - 1)=((wst - 1:Nat):Int):=by rw [w64_id (by omega)];omega
  rw [show ((wst:Int) == 0)=false from beq_eq_false_iff_ne.2 (by omega),zc,Tr.rB]
  refine (bindT hp2).trans ?_
  dsimp only
  rw [Tr.rB,hw1]
  refine (bindT hu).trans ?_
  rw [Tr.rT]
  have e1:bs.length+1+(wst - 1+1)=bs.length+(wst+1):=by omega
  have e2:bs++bitsOf 1 1++unaB (wst - 1)=bs++wsBits wst:=by
   unfold wsBits unaB
   rw [show (wst == 0)=false from beq_eq_false_iff_ne.2 hz,zc,List.append_assoc]
  rw [e1,e2]
theorem typ_eq (s:Sb) (k3:s.k<=3) (ho:s.o<=32) (fix:s.k=2->s.o<=4):(0<=(s.k:Int)/\(s.k:Int)<Int.ofNat (((((List.replicate (4:Nat) (0:Int)).set (0:Nat) (0:Int)).set (1:Nat) (1:Int)).set (2:Nat) (w64 ((8:Int)+(s.o:Int)))).set (3:Nat) (w64 ((31:Int)+(s.o:Int)))).length)
  /\ IntKind.u64.wrap ((((((List.replicate (4:Nat) (0:Int)).set (0:Nat) (0:Int)).set (1:Nat) (1:Int)).set (2:Nat) (w64 ((8:Int)+(s.o:Int)))).set (3:Nat) (w64 ((31:Int)+(s.o:Int)))).getD (s.k:Int).toNat (0:Int))=(s.typ:Int)/\s.typ<128:=by
 obtain ⟨k,o,wst,pr,sf,m,ro,cs,ps,es⟩:=s
 simp only at *
 refine ⟨by simp only [List.length_set,List.length_replicate,zN];omega,?_⟩
 have w1:w64 ((8:Int)+(o:Int))=((8+o:Nat):Int):=by rw [w64_id (by omega)];omega
 have w2:w64 ((31:Int)+(o:Int))=((31+o:Nat):Int):=by rw [w64_id (by omega)];omega
 rw [w1,w2,Int.toNat_natCast]
 unfold Sb.typ
 have:k=0\/k=1\/k=2\/k=3:=by omega
 rcases this with rfl|rfl|rfl|rfl
 ·exact ⟨rfl,(by decide:(0:Nat)<128)⟩
 ·exact ⟨rfl,(by decide:(1:Nat)<128)⟩
 ·refine ⟨?_,?_⟩
  ·show IntKind.u64.wrap ((8+o:Nat):Int)=((8+o:Nat):Int)
   exact u64_id (by omega)
  ·show 8+o<128
   omega
 ·refine ⟨?_,?_⟩
  ·show IntKind.u64.wrap ((31+o:Nat):Int)=((31+o:Nat):Int)
   exact u64_id (by omega)
  ·show 31+o<128
   omega
theorem warm_eq (s:Sb) (n:Nat):LQ.warm s.D (n:Int)=some ((s.warmN n:Nat):Int):=by
 obtain ⟨k,o,wst,pr,sf,m,ro,cs,ps,es⟩:=s
 unfold LQ.warm LQ.warm.t Sb.warmN Sb.D
 dsimp only
 by_cases h0:k=0
 ·rw [if_pos h0,Tr.rR,show ((k:Int) == 0)=true from beq_iff_eq.2 (by omega),zC,Tr.rT];rfl
 ·rw [if_neg h0,Tr.rR,show ((k:Int) == 0)=false from beq_eq_false_iff_ne.2 (by omega),zc,Tr.rR]
  by_cases h1:k=1
  ·rw [if_pos h1,show ((k:Int) == 1)=true from beq_iff_eq.2 (by omega),zC,Tr.rT]
  ·rw [if_neg h1,show ((k:Int) == 1)=false from beq_eq_false_iff_ne.2 (by omega),zc,Tr.rT]
theorem sg_loop (f:Int×Int×StD×List UInt8->Option (Int×Int×StD×List UInt8⊕Int×StD×List UInt8)) (st:StD) (l:List Int) (V:Nat) (bs:List Bool)
  (hf:∀ i,i<l.length->∀ (B:List Bool),B.length<=bs.length+i*V->f ((i:Int),(B.length:Int),st,pk B)=some (.inl (((i+1:Nat):Int),((B.length+V:Nat):Int),st,pk (B++bitsOf (two64 (l.getD i 0)) V))))
  (he:∀ (B:List Bool),f ((l.length:Int),(B.length:Int),st,pk B)=some (.inr ((B.length:Int),st,pk B))) :
  loopO f ((0:Int),(bs.length:Int),st,pk bs)=some (((bs++sgBits V l).length:Int),st,pk (bs++sgBits V l)):=by
 have h:=loopO_steps (f:=f) (fun i=>((i:Int),((bs++sgBits V (l.take i)).length:Int),st,pk (bs++sgBits V (l.take i)))) (r:=(((bs++sgBits V l).length:Int),st,pk (bs++sgBits V l))) l.length (fun i hi=>by
  have hl:(bs++sgBits V (l.take i)).length=bs.length+i*V:=by rw [zL,sgBits_len,List.length_take,Nat.min_eq_left (by omega)]
  have hs:=hf i hi (bs++sgBits V (l.take i)) (by omega)
  rw [hs]
  have e1:sgBits V (l.take (i+1))=sgBits V (l.take i)++bitsOf (two64 (l.getD i 0)) V:=by
   rw [List.take_succ_eq_append_getElem hi,getD_lt _ _ hi]
   unfold sgBits two64
   rw [List.flatMap_append];simp
  have e2:(bs++sgBits V (l.take i)++bitsOf (two64 (l.getD i 0)) V).length=(bs++sgBits V (l.take i)).length+V:=by rw [zL,zG]
  rw [e1,←List.append_assoc,e2]) (by
  rw [List.take_of_length_le (Nat.le_refl _)]
  exact he _)
 simp only [List.take_zero] at h
 rw [show sgBits V []=[] from rfl,List.append_nil] at h
 exact h
theorem residuals_eq (s:Sb) (mm:List Int) (n:Nat) (hk:s.k=2\/s.k=3) (fix:s.k=2->s.o<=4) (lpc:s.k=3->1<=s.o/\s.o<=32/\s.sf<=15/\s.cs.length=s.o) (ho:s.o<=mm.length) (hl:mm.length<=1048576):LQ.residuals s.D mm=some (s.res mm,0):=by
 obtain ⟨k,o,wst,pr,sf,m,ro,cs,ps,es⟩:=s
 simp only at *
 unfold LQ.residuals LQ.residuals.t Sb.res Sb.D
 dsimp only
 rcases hk with rfl|rfl
 ·rw [Tr.rR,show (((2:Nat):Int) == 2)=true from rfl,zC,Tr.rB]
  exact (bindT (Fixed_eq o mm (fix rfl) ho hl)).trans rfl
 ·obtain ⟨l1,l2,l3,l4⟩:=lpc rfl
  rw [Tr.rR,show (((3:Nat):Int) == 2)=false from rfl,zc,Tr.rB]
  refine (bindT (Lpc_eq cs mm sf (by omega) (by omega) (by omega) (by omega) hl)).trans ?_
  rw [l4];rfl
theorem sb_of (s:Sb) (W:Nat) (l:List Int) (ck:CkOK s W l.length) (go:GoOK s W l) (ri:2<=s.k->RiOK s.m s.ro s.ps s.es l.length s.o (s.res (mids s.wst l))):SbOK s W l:=
 ⟨ck.b1,ck.b2,ck.w1,ck.w2,ck.ws,go.dv,go.ft,ck.k3,ck.low,ck.flat,go.con,ck.fix,ck.lpc,ck.ob,ri,go.w31⟩
theorem encF_dec (s:Sb) (W:Nat) (l:List Int) (bs:List Bool) (ck:CkOK s W l.length) (go:GoOK s W l) (hC:LQ.Check s.D (l.length:Int) (W:Int)=some 0) (hG:LQ.goes s.D (W:Int) l=some (mids s.wst l,true)) (hb:bs.length+3000000+l.length*16777250<=70368744177000) :
  (SbOK s W l/\LQ.encF (s.D,(W:Int),l) (bs.length:Int) (pk bs)=some (0,((bs.length+(s.bits W l).length:Nat):Int),pk (bs++s.bits W l)))\/LQ.encF (s.D,(W:Int),l) (bs.length:Int) (pk bs)=some (60,(bs.length:Int),pk bs):=by
 have ckk:=ck
 obtain ⟨b1,b2,w1,w2,ws,k3,low,flat,fix,lpc,ob,rc⟩:=ck
 have hmf:=mids_fits W s.wst l ws go.ft
 have hml:=mids_len s.wst l
 have ho32:s.o<=32:=by
  have:s.k<2\/s.k=2\/s.k=3:=by omega
  rcases this with h|h|h
  ·rw [(low h).1];omega
  ·have:=fix h;omega
  ·exact (lpc h).2.1
 obtain ⟨ht1,ht2,ht3⟩:=typ_eq s k3 ho32 fix
 have hwn:s.warmN l.length<=l.length:=by
  unfold Sb.warmN
  split
  ·exact b1
  ·split
   ·exact Nat.le_refl _
   ·exact ob
 have hwarm:=warm_eq s l.length
 generalize hmm:mids s.wst l=mm at *
 have hp1:=put1_eq bs s.typ 7 (by omega) (by decide) (by omega)
 have hB1:(bs++bitsOf s.typ 7).length=bs.length+7:=by rw [zL,zG]
 have hw0:=wst_part s.wst (bs++bitsOf s.typ 7) s.st (by omega) (by omega)
 rw [hB1] at hw0
 generalize hB2:bs++bitsOf s.typ 7++wsBits s.wst=B2 at hw0
 have hB2l:B2.length=bs.length+7+(s.wst+1):=by rw [←hB2,zL,hB1,wsBits_len]
 have hlt:List.take (((s.warmN l.length:Nat):Int) - 0).toNat (List.drop 0 mm)=mm.take (s.warmN l.length):=by rw [Int.sub_zero,Int.toNat_natCast];rfl
 generalize hwv:s.warmN l.length=wn at *
 have htl:(mm.take wn).length=wn:=by rw [List.length_take];omega
 have hWw:w64 ((W:Int) - (s.wst:Int))=((W - s.wst:Nat):Int):=by rw [w64_id (by omega)];omega
 have hV:wn*(W - s.wst)<=65535*33:=Nat.mul_le_mul (by omega) (by omega)
 have hB3l:(B2++sgBits (W - s.wst) (mm.take wn)).length<=bs.length+41+65535*33:=by rw [zL,sgBits_len,htl,hB2l];omega
 generalize hB3:B2++sgBits (W - s.wst) (mm.take wn)=B3 at hB3l
 have hst:s.st=((s.k:Int),(s.o:Int),(s.wst:Int),(s.pr:Int),(s.sf:Int),s.cs,(s.m:Int),(s.ro:Int),s.ps,s.es):=rfl
 have hfinal:∀ B4 B5:List Bool,B4=B3++s.lpcB->B5=B4++s.resB l.length mm->((B5.length:Nat):Int)=((bs.length+(s.bits W l).length:Nat):Int)/\B5=bs++s.bits W l:=fun B4 B5 e4 e5=>by
  have e:B5=bs++s.bits W l:=by
   rw [e5,e4,←hB3,←hB2]
   unfold Sb.bits
   rw [hmm,hwv]
   simp only [List.append_assoc]
  exact ⟨by rw [e,zL],e⟩
 have hitem:∀ i,i<(mm.take wn).length->fitsW (W - s.wst) ((mm.take wn).getD i 0):=fun i hi=>hmf _ (by rw [getD_lt _ _ hi];exact List.mem_of_mem_take (List.getElem_mem hi))
 by_cases hk2:2<=s.k
 rotate_left
 ·
  left
  refine ⟨sb_of s W l ckk go (fun h=>absurd h hk2),?_⟩
  have hlp:s.lpcB=[]:=by unfold Sb.lpcB;rw [if_neg (by omega)]
  have hrs:s.resB l.length mm=[]:=by unfold Sb.resB;rw [if_pos (by omega)]
  obtain ⟨f1,f2⟩:=hfinal B3 B3 (by rw [hlp,List.append_nil]) (by rw [hrs,List.append_nil])
  unfold LQ.encF LQ.encF.t
  dsimp only
  rw [Tr.rR,zc,Tr.rB]
  refine (bindT (a:=(0:Int)) hC).trans ?_
  rw [Tr.rR,show ((0:Int) != 0)=false from rfl,zc,Tr.rB]
  refine (bindT hG).trans ?_
  have d1:decide (s.D.1>=2)=false:=zF (by show ¬ ((s.k:Int)>=2);omega)
  rw [Bool.not_true,Tr.rR,zc,Tr.rR,d1,zc]
  refine (Tr.rN _ ht1).trans ?_
  rw [Tr.rB]
  refine (bindT (a:=((0:Int),((bs.length+7:Nat):Int),pk (bs++bitsOf s.typ 7))) (by
   exact (congrArg (fun x=>LQ.put1 (x,7) (bs.length:Int) (pk bs)) ht2).trans hp1)).trans ?_
  dsimp only
  rw [Tr.rB]
  refine (bindT (a:=(((bs.length+7+(s.wst+1):Nat):Int),s.st,pk B2)) hw0).trans ?_
  rw [←hB2l,Tr.rB]
  refine (bindT (a:=((wn:Nat):Int)) hwarm).trans ?_
  rw [Tr.rN _ (by simp only [zN];omega),Tr.rB]
  have hlo:=sg_loop (fun (d:Int×Int×StD×List UInt8)=>(LQ.encF.l2 (s.D,(W:Int),l) (mm,true) ((wn:Nat):Int) d.1 d.2.1 d.2.2.1 d.2.2.2).run) s.st (mm.take wn) (W - s.wst) B2 (fun i hi B hB=>by
   have hs:=sig1_eq B ((mm.take wn).getD i 0) (W - s.wst) (by omega) (by omega) (hitem i hi) (by
    have:i*(W - s.wst)<=65535*33:=Nat.mul_le_mul (by omega) (by omega)
    omega)
   unfold LQ.encF.l2
   dsimp only
   rw [hlt,Tr.rR,zT (by simp only [zN];omega),zC,Tr.rN _ (by simp only [zN];omega),Int.toNat_natCast,Tr.rB]
   refine (bindT (a:=((0:Int),((B.length+(W - s.wst):Nat):Int),pk (B++bitsOf (two64 ((mm.take wn).getD i 0)) (W - s.wst)))) (by
    rw [←hs]
    show LQ.sig1 (_,w64 ((W:Int) - (s.wst:Int))) _ _=_
    rw [hWw])).trans ?_
   rw [Tr.rT,w64_id (by omega)]
   rfl) (fun B=>by
   unfold LQ.encF.l2
   dsimp only
   rw [hlt,Tr.rR,zF (by simp only [zN];omega),zc,Tr.rT])
  rw [hB3] at hlo
  refine (bindT hlo).trans ?_
  rw [Tr.rB]
  refine (bindT (a:=(((B3.length:Nat):Int),s.st,pk B3)) (by
   have h3:(s.st.1 == 3)=false:=beq_eq_false_iff_ne.2 (by show ¬ (s.k:Int)=3;omega)
   dsimp only
   rw [Tr.rR,h3,zc,Tr.rT])).trans ?_
  rw [Tr.rB]
  refine (bindT (a:=(((B3.length:Nat):Int),pk B3)) (by
   have h3:decide (s.st.1>=2)=false:=zF (by show ¬ (s.k:Int)>=2;omega)
   dsimp only
   rw [Tr.rR,h3,zc,Tr.rT])).trans ?_
  rw [Tr.rT]
  dsimp only
  rw [f1,f2]
 ·
  have hk23:s.k=2\/s.k=3:=by omega
  obtain ⟨hrc,hrk⟩:=rc hk2
  have hres:=residuals_eq s mm l.length hk23 fix (fun h=>⟨(lpc h).1,(lpc h).2.1,(lpc h).2.2.2.2.1,(lpc h).2.2.2.2.2.1⟩) (by omega) (by omega)
  have hrl:(s.res mm).length=l.length - s.o:=by
   unfold Sb.res
   split<;>rw [leftV_len,hml]
  have hrr:∀ n∈s.res mm,inR n:=by
   unfold Sb.res
   split<;>exact leftV_range _ _ _ _
  have hN:2 ^ s.ro<=2 ^ 15:=Nat.pow_le_pow_right (by decide) hrc.ro15
  have hrl2:(s.res mm).length*16777250<=l.length*16777250:=Nat.mul_le_mul_right _ (by omega)
  have d1:decide (s.D.1>=2)=true:=zT (by show ((s.k:Int)>=2);omega)
  have hd0:=rEnc1_dec s.m s.ro l.length s.o s.ps s.es (s.res mm) [] hrc hrk hrl hrr (by simp only [List.length_nil];omega)
  rcases hd0 with ⟨ri,hd0⟩|⟨_,hd0⟩
  rotate_left
  ·right
   unfold LQ.encF LQ.encF.t
   dsimp only
   rw [Tr.rR,zc,Tr.rB]
   refine (bindT (a:=(0:Int)) hC).trans ?_
   rw [Tr.rR,show ((0:Int) != 0)=false from rfl,zc,Tr.rB]
   refine (bindT hG).trans ?_
   rw [Bool.not_true,Tr.rR,zc,Tr.rR,d1,zC,Tr.rB]
   refine (bindT (a:=(s.res mm,(0:Int))) hres).trans ?_
   dsimp only
   rw [Tr.rB]
   refine (bindT (a:=(true,(bs.length:Int),pk bs,s.st)) (by
    rw [Tr.rR,show ((0:Int) != 0)=false from rfl,zc,Tr.rB]
    refine (bindT (a:=((0:Int),([]:List UInt8))) rfl).trans ?_
    rw [Tr.rB]
    refine (bindT hd0).trans ?_
    rfl)).trans ?_
   rfl
  left
  have okk:=sb_of s W l ckk go (fun _=>by rw [hmm];exact ri)
  refine ⟨okk,?_⟩
  have hrs:s.resB l.length mm=riceB s.m s.ro s.ps s.es (l.length / 2 ^ s.ro) s.o (s.res mm):=by unfold Sb.resB;rw [if_neg (by omega)]
  have hlpl:s.lpcB.length<=500:=by
   unfold Sb.lpcB
   split
   ·rename_i h3
    obtain ⟨l1,l2,l3,l4,l5,l6,l7⟩:=lpc h3
    rw [zL,zL,zG,zG,sgBits_len,l6]
    have:s.o*s.pr<=32*15:=Nat.mul_le_mul l2 l4
    omega
   ·simp
  generalize hB4:B3++s.lpcB=B4
  have hB4l:B4.length<=bs.length+541+65535*33:=by rw [←hB4,zL];omega
  have hd1:=rEnc1_dec s.m s.ro l.length s.o s.ps s.es (s.res mm) B4 hrc hrk hrl hrr (by omega)
  have hd2:LQ.rEnc1 (((s.m:Int),(s.ro:Int),s.ps,s.es,()),(l.length:Int),(s.o:Int),s.res mm) (B4.length:Int) (pk B4)=some (0,((B4.length+(riceB s.m s.ro s.ps s.es (l.length / 2 ^ s.ro) s.o (s.res mm)).length:Nat):Int),pk (B4++riceB s.m s.ro s.ps s.es (l.length / 2 ^ s.ro) s.o (s.res mm))):=by
   rcases hd1 with ⟨_,h⟩|⟨h,_⟩
   ·exact h
   ·exact absurd ri h
  obtain ⟨f1,f2⟩:=hfinal B4 (B4++riceB s.m s.ro s.ps s.es (l.length / 2 ^ s.ro) s.o (s.res mm)) hB4.symm (by rw [hrs])
  unfold LQ.encF LQ.encF.t
  dsimp only
  rw [Tr.rR,zc,Tr.rB]
  refine (bindT (a:=(0:Int)) hC).trans ?_
  rw [Tr.rR,show ((0:Int) != 0)=false from rfl,zc,Tr.rB]
  refine (bindT hG).trans ?_
  rw [Bool.not_true,Tr.rR,zc,Tr.rR,d1,zC,Tr.rB]
  refine (bindT (a:=(s.res mm,(0:Int))) hres).trans ?_
  dsimp only
  rw [Tr.rB]
  refine (bindT (a:=(false,(bs.length:Int),pk bs,s.st)) (by
   rw [Tr.rR,show ((0:Int) != 0)=false from rfl,zc,Tr.rB]
   refine (bindT (a:=((0:Int),([]:List UInt8))) rfl).trans ?_
   rw [Tr.rB]
   refine (bindT hd0).trans ?_
   rfl)).trans ?_
  dsimp only
  rw [Tr.rR,zc]
  refine (Tr.rN _ ht1).trans ?_
  rw [Tr.rB]
  refine (bindT (a:=((0:Int),((bs.length+7:Nat):Int),pk (bs++bitsOf s.typ 7))) (by
   exact (congrArg (fun x=>LQ.put1 (x,7) (bs.length:Int) (pk bs)) ht2).trans hp1)).trans ?_
  dsimp only
  rw [Tr.rB]
  refine (bindT (a:=(((bs.length+7+(s.wst+1):Nat):Int),s.st,pk B2)) hw0).trans ?_
  rw [←hB2l,Tr.rB]
  refine (bindT (a:=((wn:Nat):Int)) hwarm).trans ?_
  rw [Tr.rN _ (by simp only [zN];omega),Tr.rB]
  have hlo:=sg_loop (fun (d:Int×Int×StD×List UInt8)=>(LQ.encF.l0 (s.D,(W:Int),l) (mm,true) ((wn:Nat):Int) d.1 d.2.1 d.2.2.1 d.2.2.2).run) s.st (mm.take wn) (W - s.wst) B2 (fun i hi B hB=>by
   have hs:=sig1_eq B ((mm.take wn).getD i 0) (W - s.wst) (by omega) (by omega) (hitem i hi) (by
    have:i*(W - s.wst)<=65535*33:=Nat.mul_le_mul (by omega) (by omega)
    omega)
   unfold LQ.encF.l0
   dsimp only
   rw [hlt,Tr.rR,zT (by simp only [zN];omega),zC,Tr.rN _ (by simp only [zN];omega),Int.toNat_natCast,Tr.rB]
   refine (bindT (a:=((0:Int),((B.length+(W - s.wst):Nat):Int),pk (B++bitsOf (two64 ((mm.take wn).getD i 0)) (W - s.wst)))) (by
    rw [←hs]
    show LQ.sig1 (_,w64 ((W:Int) - (s.wst:Int))) _ _=_
    rw [hWw])).trans ?_
   rw [Tr.rT,w64_id (by omega)]
   rfl) (fun B=>by
   unfold LQ.encF.l0
   dsimp only
   rw [hlt,Tr.rR,zF (by simp only [zN];omega),zc,Tr.rT])
  rw [hB3] at hlo
  refine (bindT hlo).trans ?_
  rw [Tr.rB]
  refine (bindT (a:=(((B4.length:Nat):Int),s.st,pk B4)) (by
   by_cases e3:s.k=3
   ·obtain ⟨l1,l2,l3,l4,l5,l6,l7⟩:=lpc e3
    have h3:(s.st.1 == 3)=true:=beq_iff_eq.2 (by show (s.k:Int)=3;omega)
    have hlp:s.lpcB=bitsOf (s.pr - 1) 4++(bitsOf s.sf 5++sgBits s.pr s.cs):=by unfold Sb.lpcB;rw [if_pos e3]
    have hq1:=put1_eq B3 (s.pr - 1) 4 (by omega) (by decide) (by omega)
    have hq1l:(B3++bitsOf (s.pr - 1) 4).length=B3.length+4:=by rw [zL,zG]
    have hq2:=put1_eq (B3++bitsOf (s.pr - 1) 4) s.sf 5 (by omega) (by decide) (by omega)
    rw [hq1l] at hq2
    have w1':IntKind.u64.wrap (w64 ((s.pr:Int) - 1))=((s.pr - 1:Nat):Int):=by rw [w64_id (by omega),u64_id (by omega)];omega
    have w2':IntKind.u64.wrap (s.sf:Int)=(s.sf:Int):=u64_id (by omega)
    dsimp only
    rw [Tr.rR,h3,zC,Tr.rB]
    refine (bindT (a:=((0:Int),((B3.length+4:Nat):Int),pk (B3++bitsOf (s.pr - 1) 4))) (by
     rw [←hq1]
     show LQ.put1 (IntKind.u64.wrap (w64 ((s.pr:Int) - 1)),4) _ _=_
     rw [w1'];rfl)).trans ?_
    dsimp only
    rw [Tr.rB]
    refine (bindT (a:=((0:Int),((B3.length+4+5:Nat):Int),pk (B3++bitsOf (s.pr - 1) 4++bitsOf s.sf 5))) (by
     rw [←hq2]
     show LQ.put1 (IntKind.u64.wrap (s.sf:Int),5) _ _=_
     rw [w2'];rfl)).trans ?_
    dsimp only
    rw [Tr.rB]
    generalize hB35:B3++bitsOf (s.pr - 1) 4++bitsOf s.sf 5=B35
    have hB35l:B35.length=B3.length+4+5:=by rw [←hB35,zL,hq1l,zG]
    have hlc:=sg_loop (fun (d:Int×Int×StD×List UInt8)=>(LQ.encF.l1 (((B3.length:Nat):Int),s.st,pk B3) d.1 d.2.1 d.2.2.1 d.2.2.2).run) s.st s.cs s.pr B35 (fun i hi B hB=>by
     have hs:=sig1_eq B (s.cs.getD i 0) s.pr l3 (by omega) (l7 _ (by rw [getD_lt _ _ hi];exact List.getElem_mem hi)) (by
      have:i*s.pr<=32*15:=Nat.mul_le_mul (by omega) l4
      omega)
     unfold LQ.encF.l1
     dsimp only
     have e5:s.st.2.2.2.2.2.1=s.cs:=rfl
     rw [e5,Tr.rR,zT (by simp only [zN];omega),zC,Tr.rN _ (by simp only [zN];omega),Int.toNat_natCast,Tr.rB]
     refine (bindT (a:=((0:Int),((B.length+s.pr:Nat):Int),pk (B++bitsOf (two64 (s.cs.getD i 0)) s.pr))) hs).trans ?_
     rw [Tr.rT,w64_id (by omega)]
     rfl) (fun B=>by
     unfold LQ.encF.l1
     dsimp only
     have e5:s.st.2.2.2.2.2.1=s.cs:=rfl
     rw [e5,Tr.rR,zF (by simp only [zN];omega),zc,Tr.rT]
     rfl)
    have hB4':B35++sgBits s.pr s.cs=B4:=by rw [←hB4,hlp,←hB35,List.append_assoc,List.append_assoc]
    rw [hB4'] at hlc
    rw [←hB35l]
    refine (bindT hlc).trans ?_
    rfl
   ·have h3:(s.st.1 == 3)=false:=beq_eq_false_iff_ne.2 (by show ¬ (s.k:Int)=3;omega)
    have hlp:s.lpcB=[]:=by unfold Sb.lpcB;rw [if_neg e3]
    have:B4=B3:=by rw [←hB4,hlp,List.append_nil]
    dsimp only
    rw [Tr.rR,h3,zc,Tr.rT,this])).trans ?_
  rw [Tr.rB]
  refine (bindT (a:=(((B4.length+(riceB s.m s.ro s.ps s.es (l.length / 2 ^ s.ro) s.o (s.res mm)).length:Nat):Int),pk (B4++riceB s.m s.ro s.ps s.es (l.length / 2 ^ s.ro) s.o (s.res mm)))) (by
   have h3:decide (s.st.1>=2)=true:=zT (by show (s.k:Int)>=2;omega)
   dsimp only
   rw [Tr.rR,h3,zC,Tr.rB]
   refine (bindT hd2).trans ?_
   rfl)).trans ?_
  rw [Tr.rT]
  dsimp only
  rw [zL] at f1
  rw [f1,f2]
end
section
set_option maxRecDepth 10000
open Go.LM
theorem riceB_len (m ro block o:Nat) (ps es l:List Int) (ri:RiOK m ro ps es block o l):(riceB m ro ps es (block / 2 ^ ro) o l).length<=6+2 ^ ro*10+l.length*16777250:=by
 obtain ⟨hm,ro15,b1,b2,o32,dv,ge,lp,le,ll,pt⟩:=ri
 have hll:l.length=2 ^ ro*(block / 2 ^ ro) - o:=by rw [Nat.mul_comm,dv,ll]
 have hNn:2 ^ ro*(block / 2 ^ ro)=block:=by rw [Nat.mul_comm];exact dv
 have hGl:∀ i,i<2 ^ ro->(ptG m ps es l o (block / 2 ^ ro) i).length<=10+(cutN l o (block / 2 ^ ro) i).length*16777250:=fun i hi=>by
  obtain ⟨hw,k0,k1,e0,e1,ke,it⟩:=pt i hi
  have h32:2 ^ (4+m)<=32:=by rcases hm with rfl|rfl<;>decide
  have hf:=flat_len (itB (ps.getD i 0) (es.getD i 0)) 16777250 (cutN l o (block / 2 ^ ro) i) (fun x hx=>itB_len _ _ _ ⟨k0,by omega⟩ e1 (it x hx))
  unfold ptG ptB
  rw [zL]
  have:(if es.getD i 0<0 then bitsOf (ps.getD i 0).toNat (4+m) else bitsOf (2 ^ (4+m) - 1) (4+m)++bitsOf (es.getD i 0).toNat 5).length<=10:=by
   split
   ·rw [zG];omega
   ·rw [zL,zG,zG];omega
  omega
 have h:=parts_len m (block / 2 ^ ro) o ps es l (2 ^ ro) (by omega) hll hGl (2 ^ ro) (Nat.le_refl _)
 rw [hNn,←ll] at h
 unfold riceB
 rw [zL,zL,zG,zG]
 omega
theorem bits_len (s:Sb) (W:Nat) (l:List Int) (ok:SbOK s W l):(s.bits W l).length<=3000000+l.length*16777250:=by
 obtain ⟨b1,b2,w1,w2,ws,dv,ft,k3,low,flat,con,fix,lpc,ob,ri,w31⟩:=ok
 have hml:=mids_len s.wst l
 have hwn:((mids s.wst l).take (s.warmN l.length)).length*(W - s.wst)<=65535*33:=Nat.mul_le_mul (by rw [List.length_take];omega) (by omega)
 have hlp:s.lpcB.length<=500:=by
  unfold Sb.lpcB
  split
  ·rename_i h3
   obtain ⟨l1,l2,l3,l4,l5,l6,l7⟩:=lpc h3
   rw [zL,zL,zG,zG,sgBits_len,l6]
   have:s.o*s.pr<=32*15:=Nat.mul_le_mul l2 l4
   omega
  ·simp
 have hrs:(s.resB l.length (mids s.wst l)).length<=6+32768*10+l.length*16777250:=by
  unfold Sb.resB
  split
  ·simp
  ·rename_i h2
   have h:=ri (by omega)
   have hr:=riceB_len s.m s.ro l.length s.o s.ps s.es _ h
   have hN:2 ^ s.ro<=2 ^ 15:=Nat.pow_le_pow_right (by decide) h.ro15
   have:(s.res (mids s.wst l)).length*16777250<=l.length*16777250:=Nat.mul_le_mul_right _ (by rw [h.ll];omega)
   omega
 unfold Sb.bits
 rw [zL,zL,zL,zL,zG,wsBits_len,sgBits_len]
 omega
theorem encF_bad2 (d:SubD) (W:Int) (l x:List Int) (a:Int) (row:List UInt8) (h:LQ.Check d (Int.ofNat l.length) W=some 0) (h2:LQ.goes d W l=some (x,false)):LQ.encF (d,W,l) a row=some (60,a,row):=by
 unfold LQ.encF LQ.encF.t
 dsimp only
 rw [Tr.rR,zc,Tr.rB]
 refine (bindT (a:=(0:Int)) h).trans ?_
 rw [Tr.rR,show ((0:Int) != 0)=false from rfl,zc,Tr.rB]
 refine (bindT h2).trans ?_
 rfl
theorem DecodeF_at (all:List Bool) (a W:Nat) (s:Sb) (l:List Int) (ok:SbOK s W l) (hb:all.length<=281474976710656) (h:Bat all a (s.bits W l)) :
  LQ.DecodeF ((l.length:Int),(W:Int)) (a:Int) (pk all)=some ((l,s.D,0),((a+(s.bits W l).length:Nat):Int),pk all):=by
 have okk:=ok
 obtain ⟨b1,b2,w1,w2,ws,dv,ft,k3,low,flat,con,fix,lpc,ob,ri,w31⟩:=okk
 have hhead:=head_eq all a W l.length s h.left hb ws w2 k3 (fun e=>(low e).1) fix (fun e=>⟨(lpc e).1,(lpc e).2.1⟩) ob
 have hr:=h.right
 rw [zL,zG,wsBits_len] at hr
 have hbody:=bodyF_eq all (a+(7+(s.wst+1))) W s l ok hb hr
 have hcon:=ConG_eq (mids s.wst l) (W:Int) (s.k:Int) (s.o:Int) (s.pr:Int) (s.sf:Int) (s.m:Int) (s.ro:Int) s.wst (W - s.wst) s.cs s.ps s.es (by rw [show s.wst+(W - s.wst)=W by omega]) (by omega) (by omega) (by omega) (mids_fits W s.wst l ws ft) (by rw [mids_len];omega)
 have huns:=Unshift_eq l s.wst (by omega) (by omega) (fun n hn=>⟨dv n hn,fitsW_inR W n (by omega) (ft n hn)⟩)
 have hlen:a+(s.bits W l).length=a+(7+(s.wst+1))+(sgBits (W - s.wst) ((mids s.wst l).take (s.warmN l.length))++(s.lpcB++s.resB l.length (mids s.wst l))).length:=by
  unfold Sb.bits
  generalize sgBits (W - s.wst) ((mids s.wst l).take (s.warmN l.length))++(s.lpcB++s.resB l.length (mids s.wst l))=X
  rw [zL,zL,zG,wsBits_len];omega
 unfold LQ.DecodeF LQ.DecodeF.t
 dsimp only
 have d1:decide ((l.length:Int)<1)=false:=zF (by omega)
 have d2:decide ((l.length:Int)>65535)=false:=zF (by omega)
 have d3:decide ((W:Int)<1)=false:=zF (by omega)
 have d4:decide ((W:Int)>33)=false:=zF (by omega)
 rw [Tr.rB]
 refine (bindT (a:=(false,((a:Int),pk all),(W:Int),0,0,0,0,0,0,0)) (by
  rw [Tr.rR,zc,Tr.rR,d1,zc,Tr.rR,d2,zc,Tr.rR,d3,zc,Tr.rT,d4])).trans ?_
 dsimp only
 rw [Tr.rR,zc,Tr.rB]
 refine (bindT hhead).trans ?_
 dsimp only
 have hwv:w64 ((W:Int) - (s.wst:Int))=((W - s.wst:Nat):Int):=by rw [w64_id (by omega)];omega
 rw [Bool.not_true,Tr.rR,zc,Tr.rB,hwv,show a+(8+s.wst)=a+(7+(s.wst+1)) by omega]
 refine (bindT hbody).trans ?_
 dsimp only
 rw [Tr.rB,←hlen]
 refine (bindT (a:=(false,(((a+(s.bits W l).length:Nat):Int),pk all),(0,0,0,0,0,0,0),(s.k:Int),(s.o:Int),(s.wst:Int),(s.pr:Int),(s.sf:Int),s.cs,(s.m:Int),(s.ro:Int),s.ps,s.es)) (by
  rw [Bool.not_true,Tr.rR,zc,Tr.rB]
  refine (bindT hcon).trans ?_
  rfl)).trans ?_
 dsimp only
 rw [Tr.rR,zc,Tr.rB]
 refine (bindT huns).trans ?_
 rfl
end
section
set_option maxRecDepth 10000
open Go.LM
theorem encF_low (s:Sb) (hk2:¬ 2<=s.k) (W:Nat) (l:List Int) (bs:List Bool) (ck:CkOK s W l.length) (go:GoOK s W l) (hC:LQ.Check s.D (l.length:Int) (W:Int)=some 0) (hG:LQ.goes s.D (W:Int) l=some (mids s.wst l,true)) (hb:bs.length+3000000+l.length*16777250<=70368744177000) :
  SbOK s W l/\LQ.encF (s.D,(W:Int),l) (bs.length:Int) (pk bs)=some (0,((bs.length+(s.bits W l).length:Nat):Int),pk (bs++s.bits W l)):=by
 have ckk:=ck
 obtain ⟨b1,b2,w1,w2,ws,k3,low,flat,fix,lpc,ob,rc⟩:=ck
 have hmf:=mids_fits W s.wst l ws go.ft
 have hml:=mids_len s.wst l
 have ho32:s.o<=32:=by
  have:s.k<2\/s.k=2\/s.k=3:=by omega
  rcases this with h|h|h
  ·rw [(low h).1];omega
  ·have:=fix h;omega
  ·exact (lpc h).2.1
 obtain ⟨ht1,ht2,ht3⟩:=typ_eq s k3 ho32 fix
 have hwn:s.warmN l.length<=l.length:=by
  unfold Sb.warmN
  split
  ·exact b1
  ·split
   ·exact Nat.le_refl _
   ·exact ob
 have hwarm:=warm_eq s l.length
 generalize hmm:mids s.wst l=mm at *
 have hp1:=put1_eq bs s.typ 7 (by omega) (by decide) (by omega)
 have hB1:(bs++bitsOf s.typ 7).length=bs.length+7:=by rw [zL,zG]
 have hw0:=wst_part s.wst (bs++bitsOf s.typ 7) s.st (by omega) (by omega)
 rw [hB1] at hw0
 generalize hB2:bs++bitsOf s.typ 7++wsBits s.wst=B2 at hw0
 have hB2l:B2.length=bs.length+7+(s.wst+1):=by rw [←hB2,zL,hB1,wsBits_len]
 have hlt:List.take (((s.warmN l.length:Nat):Int) - 0).toNat (List.drop 0 mm)=mm.take (s.warmN l.length):=by rw [Int.sub_zero,Int.toNat_natCast];rfl
 generalize hwv:s.warmN l.length=wn at *
 have htl:(mm.take wn).length=wn:=by rw [List.length_take];omega
 have hWw:w64 ((W:Int) - (s.wst:Int))=((W - s.wst:Nat):Int):=by rw [w64_id (by omega)];omega
 have hV:wn*(W - s.wst)<=65535*33:=Nat.mul_le_mul (by omega) (by omega)
 have hB3l:(B2++sgBits (W - s.wst) (mm.take wn)).length<=bs.length+41+65535*33:=by rw [zL,sgBits_len,htl,hB2l];omega
 generalize hB3:B2++sgBits (W - s.wst) (mm.take wn)=B3 at hB3l
 have hst:s.st=((s.k:Int),(s.o:Int),(s.wst:Int),(s.pr:Int),(s.sf:Int),s.cs,(s.m:Int),(s.ro:Int),s.ps,s.es):=rfl
 have hfinal:∀ B4 B5:List Bool,B4=B3++s.lpcB->B5=B4++s.resB l.length mm->((B5.length:Nat):Int)=((bs.length+(s.bits W l).length:Nat):Int)/\B5=bs++s.bits W l:=fun B4 B5 e4 e5=>by
  have e:B5=bs++s.bits W l:=by
   rw [e5,e4,←hB3,←hB2]
   unfold Sb.bits
   rw [hmm,hwv]
   simp only [List.append_assoc]
  exact ⟨by rw [e,zL],e⟩
 have hitem:∀ i,i<(mm.take wn).length->fitsW (W - s.wst) ((mm.take wn).getD i 0):=fun i hi=>hmf _ (by rw [getD_lt _ _ hi];exact List.mem_of_mem_take (List.getElem_mem hi))
 ·
  refine ⟨sb_of s W l ckk go (fun h=>absurd h hk2),?_⟩
  have hlp:s.lpcB=[]:=by unfold Sb.lpcB;rw [if_neg (by omega)]
  have hrs:s.resB l.length mm=[]:=by unfold Sb.resB;rw [if_pos (by omega)]
  obtain ⟨f1,f2⟩:=hfinal B3 B3 (by rw [hlp,List.append_nil]) (by rw [hrs,List.append_nil])
  unfold LQ.encF LQ.encF.t
  dsimp only
  rw [Tr.rR,zc,Tr.rB]
  refine (bindT (a:=(0:Int)) hC).trans ?_
  rw [Tr.rR,show ((0:Int) != 0)=false from rfl,zc,Tr.rB]
  refine (bindT hG).trans ?_
  have d1:decide (s.D.1>=2)=false:=zF (by show ¬ ((s.k:Int)>=2);omega)
  rw [Bool.not_true,Tr.rR,zc,Tr.rR,d1,zc]
  refine (Tr.rN _ ht1).trans ?_
  rw [Tr.rB]
  refine (bindT (a:=((0:Int),((bs.length+7:Nat):Int),pk (bs++bitsOf s.typ 7))) (by
   exact (congrArg (fun x=>LQ.put1 (x,7) (bs.length:Int) (pk bs)) ht2).trans hp1)).trans ?_
  dsimp only
  rw [Tr.rB]
  refine (bindT (a:=(((bs.length+7+(s.wst+1):Nat):Int),s.st,pk B2)) hw0).trans ?_
  rw [←hB2l,Tr.rB]
  refine (bindT (a:=((wn:Nat):Int)) hwarm).trans ?_
  rw [Tr.rN _ (by simp only [zN];omega),Tr.rB]
  have hlo:=sg_loop (fun (d:Int×Int×StD×List UInt8)=>(LQ.encF.l2 (s.D,(W:Int),l) (mm,true) ((wn:Nat):Int) d.1 d.2.1 d.2.2.1 d.2.2.2).run) s.st (mm.take wn) (W - s.wst) B2 (fun i hi B hB=>by
   have hs:=sig1_eq B ((mm.take wn).getD i 0) (W - s.wst) (by omega) (by omega) (hitem i hi) (by
    have:i*(W - s.wst)<=65535*33:=Nat.mul_le_mul (by omega) (by omega)
    omega)
   unfold LQ.encF.l2
   dsimp only
   rw [hlt,Tr.rR,zT (by simp only [zN];omega),zC,Tr.rN _ (by simp only [zN];omega),Int.toNat_natCast,Tr.rB]
   refine (bindT (a:=((0:Int),((B.length+(W - s.wst):Nat):Int),pk (B++bitsOf (two64 ((mm.take wn).getD i 0)) (W - s.wst)))) (by
    rw [←hs]
    show LQ.sig1 (_,w64 ((W:Int) - (s.wst:Int))) _ _=_
    rw [hWw])).trans ?_
   rw [Tr.rT,w64_id (by omega)]
   rfl) (fun B=>by
   unfold LQ.encF.l2
   dsimp only
   rw [hlt,Tr.rR,zF (by simp only [zN];omega),zc,Tr.rT])
  rw [hB3] at hlo
  refine (bindT hlo).trans ?_
  rw [Tr.rB]
  refine (bindT (a:=(((B3.length:Nat):Int),s.st,pk B3)) (by
   have h3:(s.st.1 == 3)=false:=beq_eq_false_iff_ne.2 (by show ¬ (s.k:Int)=3;omega)
   dsimp only
   rw [Tr.rR,h3,zc,Tr.rT])).trans ?_
  rw [Tr.rB]
  refine (bindT (a:=(((B3.length:Nat):Int),pk B3)) (by
   have h3:decide (s.st.1>=2)=false:=zF (by show ¬ (s.k:Int)>=2;omega)
   dsimp only
   rw [Tr.rR,h3,zc,Tr.rT])).trans ?_
  rw [Tr.rT]
  dsimp only
  rw [f1,f2]
end
end Go.Proofs.YtedcnpankkaboaaGreat.Dg
