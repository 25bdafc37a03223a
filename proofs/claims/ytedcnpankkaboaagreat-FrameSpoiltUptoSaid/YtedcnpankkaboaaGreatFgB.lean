/- FgB: FgL FgM FgN FgO FgP FgQ FgR FgS FgT FgU. -/
import Derived.Test.YtedcnpankkaboaaGreatFgA
set_option linter.unusedSimpArgs false
set_option linter.unusedVariables false
namespace Go.Proofs.YtedcnpankkaboaaGreat.Dg
section
set_option maxRecDepth 10000
open Go.LM
structure Sb where
 (k o wst pr sf m ro:Nat)
 (cs ps es:List Int)
def Sb.D (s:Sb):SubD:=((s.k:Int),(s.o:Int),(s.wst:Int),(s.pr:Int),(s.sf:Int),s.cs,((s.m:Int),(s.ro:Int),s.ps,s.es,()),())
def mids (wst:Nat) (l:List Int):List Int:=l.map (fun n=>n / ((2 ^ wst:Nat):Int))
def Sb.res (s:Sb) (mm:List Int):List Int:=if s.k=2 then leftV (fixedC s.o) 0 s.o mm else leftV s.cs s.sf s.o mm
def Sb.warmN (s:Sb) (n:Nat):Nat:=if s.k=0 then 1 else if s.k=1 then n else s.o
def Sb.typ (s:Sb):Nat:=if s.k<2 then s.k else if s.k=2 then 8+s.o else 31+s.o
def Sb.lpcB (s:Sb):List Bool:=if s.k=3 then bitsOf (s.pr - 1) 4++(bitsOf s.sf 5++sgBits s.pr s.cs) else []
def Sb.resB (s:Sb) (n:Nat) (mm:List Int):List Bool:=if s.k<2 then [] else riceB s.m s.ro s.ps s.es (n / 2 ^ s.ro) s.o (s.res mm)
def Sb.bits (s:Sb) (W:Nat) (l:List Int):List Bool:=(bitsOf s.typ 7++wsBits s.wst)++(sgBits (W - s.wst) ((mids s.wst l).take (s.warmN l.length))++(s.lpcB++s.resB l.length (mids s.wst l)))
structure SbOK (s:Sb) (W:Nat) (l:List Int):Prop where
 b1:1<=l.length
 b2:l.length<=65535
 w1:1<=W
 w2:W<=33
 ws:s.wst<W
 dv:∀ n∈l,n / ((2 ^ s.wst:Nat):Int)*((2 ^ s.wst:Nat):Int)=n
 ft:∀ n∈l,fitsW W n
 k3:s.k<=3
 low:s.k<2->s.o=0/\s.m=0/\s.ro=0/\s.ps=[]/\s.es=[]
 flat:s.k<=2->s.pr=0/\s.sf=0/\s.cs=[]
 con:s.k=0->∀ n∈l,n=l.getD 0 0
 fix:s.k=2->s.o<=4
 lpc:s.k=3->1<=s.o/\s.o<=32/\1<=s.pr/\s.pr<=15/\s.sf<=15/\s.cs.length=s.o/\∀ c∈s.cs,fitsW s.pr c
 ob:s.o<=l.length
 ri:2<=s.k->RiOK s.m s.ro s.ps s.es l.length s.o (s.res (mids s.wst l))
 w31:s.wst<=31
theorem mids_len (wst:Nat) (l:List Int):(mids wst l).length=l.length:=List.length_map _
theorem div_fits (W wst:Nat) (n:Int) (h:wst<W) (hn:fitsW W n):fitsW (W - wst) (n / ((2 ^ wst:Nat):Int)):=by
 unfold fitsW at hn ⊢
 have e:2 ^ (W - 1)=2 ^ (W - wst - 1)*2 ^ wst:=by rw [←Nat.pow_add];congr 1;omega
 have hp:0<2 ^ wst:=Nat.pow_pos (by decide)
 rw [e] at hn
 generalize 2 ^ (W - wst - 1)=p at *
 generalize 2 ^ wst=q at *
 rw [Int.natCast_mul] at hn
 constructor
 ·rw [Int.le_ediv_iff_mul_le (by omega),Int.neg_mul];exact hn.1
 ·exact Int.ediv_lt_of_lt_mul (by omega) hn.2
theorem fitsW_inR (W:Nat) (n:Int) (h1:W<=64) (h:fitsW W n):inR n:=by
 have hp:2 ^ (W - 1)<=2 ^ 63:=Nat.pow_le_pow_right (by decide) (by omega)
 unfold fitsW at h
 unfold inR
 generalize 2 ^ (W - 1)=p at *
 omega
theorem mids_fits (W wst:Nat) (l:List Int) (h:wst<W) (hn:∀ n∈l,fitsW W n):∀ n∈mids wst l,fitsW (W - wst) n:=fun n hm=>by
 obtain ⟨x,hx,rfl⟩:=List.mem_map.1 hm
 exact div_fits W wst x h (hn x hx)
theorem head_eq (all:List Bool) (a W block:Nat) (s:Sb) (h:Bat all a (bitsOf s.typ 7++wsBits s.wst)) (hb:all.length<=281474976710656) (hw:s.wst<W) (hW:W<=33) (k3:s.k<=3) (low:s.k<2->s.o=0) (fix:s.k=2->s.o<=4) (lpc:s.k=3->1<=s.o/\s.o<=32) (ob:s.o<=block) :
  LQ.head ((block:Int),(W:Int)) (a:Int) (pk all)=some ((((s.k:Int),(s.o:Int),(s.wst:Int),0,0,[],(0,0,[],[],()),()),true),((a+(8+s.wst):Nat):Int),pk all):=by
 obtain ⟨k,o,wst,pr,sf,m,ro,cs,ps,es⟩:=s
 have ht64:Sb.typ ⟨k,o,wst,pr,sf,m,ro,cs,ps,es⟩<64:=by
  unfold Sb.typ
  simp only at *
  split
  ·omega
  ·split<;>omega
 have htv:(k<2/\o=0/\Sb.typ ⟨k,o,wst,pr,sf,m,ro,cs,ps,es⟩=k)\/(k=2/\o<=4/\Sb.typ ⟨k,o,wst,pr,sf,m,ro,cs,ps,es⟩=8+o)\/(k=3/\1<=o/\o<=32/\Sb.typ ⟨k,o,wst,pr,sf,m,ro,cs,ps,es⟩=31+o):=by
  unfold Sb.typ
  simp only at *
  by_cases h2:k<2
  ·exact .inl ⟨h2,low h2,if_pos h2⟩
  ·by_cases h3:k=2
   ·exact .inr (.inl ⟨h3,fix h3,by rw [if_neg h2,if_pos h3]⟩)
   ·have:=lpc (by omega)
    exact .inr (.inr ⟨by omega,this.1,this.2,by rw [if_neg h2,if_neg h3]⟩)
 generalize hT:Sb.typ ⟨k,o,wst,pr,sf,m,ro,cs,ps,es⟩=T at h ht64 htv
 simp only at *
 have hws:wsBits wst=[decide (wst≠0)]++(if wst=0 then [] else unaB (wst - 1)):=by
  unfold wsBits
  by_cases h0:wst=0
  ·subst h0;rfl
  ·rw [show (wst == 0)=false from beq_eq_false_iff_ne.2 h0,zc,zT h0,if_neg h0];rfl
 rw [hws,←List.append_assoc] at h
 have hg:=Get_eq all _ a 8 h.left (by rw [zL,zG];rfl) (by decide) hb
 rw [valB_snoc,valB_bitsOf,Nat.mod_eq_of_lt (by omega)] at hg
 have hb1:=toNat_lt2 (decide (wst≠0))
 generalize hB:decide (wst≠0)=b at hg hb1 h
 have hdiv:w64 (((2*T+b.toNat:Nat):Int) / 2)=(T:Int):=by rw [w64_id (by omega)];omega
 have hand:=and1 (2*T+b.toNat) (by omega)
 have hmod:(2*T+b.toNat) % 2=b.toNat:=by omega
 rw [hmod] at hand
 unfold LQ.head LQ.head.t
 dsimp only
 rw [Tr.rB]
 refine (bindT hg).trans ?_
 dsimp only
 rw [Tr.rR,show ((0:Int) != 0)=false from rfl,zc,Tr.rB,hdiv]
 refine (bindT (a:=Sum.inl ((((a+8:Nat):Int),pk all),(0,0,0,0,0,0,0),(k:Int),(o:Int),0,0,0,0,0)) (by
  rcases htv with ⟨h2,rfl,rfl⟩|⟨rfl,h4,rfl⟩|⟨rfl,h1,h32,rfl⟩
  ·rw [Tr.rR,zT (by omega),zC,Tr.rT];rfl
  ·have d1:decide (((8+o:Nat):Int)<2)=false:=zF (by omega)
   have d2:decide (((8+o:Nat):Int)>=8)=true:=zT (by omega)
   have d3:decide (((8+o:Nat):Int)<=12)=true:=zT (by omega)
   have e1:w64 (((8+o:Nat):Int) - 8)=(o:Int):=by rw [w64_id (by omega)];omega
   simp only [Tr.rB,Tr.rR,Tr.rT,Tr.run_csl,Tr.run_csr,zE,d1,d2,d3,e1,zC,zc]
   rfl
  ·have d1:decide (((31+o:Nat):Int)<2)=false:=zF (by omega)
   have d2:decide (((31+o:Nat):Int)>=8)=true:=zT (by omega)
   have d3:decide (((31+o:Nat):Int)<=12)=false:=zF (by omega)
   have d4:decide (((31+o:Nat):Int)>=32)=true:=zT (by omega)
   have d5:decide (((31+o:Nat):Int)<=63)=true:=zT (by omega)
   have e1:w64 (((31+o:Nat):Int) - 31)=(o:Int):=by rw [w64_id (by omega)];omega
   simp only [Tr.rB,Tr.rR,Tr.rT,Tr.run_csl,Tr.run_csr,zE,d1,d2,d3,d4,d5,e1,zC,zc]
   rfl)).trans ?_
 rw [Tr.run_csl,Tr.rB]
 dsimp only
 rw [hand]
 refine (bindT (a:=Sum.inr ((((a+(8+wst):Nat):Int),pk all),(0,0,0,0,0,0,0),(k:Int),(o:Int),(wst:Int),0,0,0,0)) (by
  by_cases h0:wst=0
  ·subst h0
   rw [←hB,Tr.rR];rfl
  ·have hbt:b=true:=by rw [←hB,zT h0]
   rw [hbt,if_neg h0] at h
   have hr:=h.right
   rw [zL,zG] at hr
   have hu:=UnaryR_eq all (a+8) (wst - 1) hr (by omega) hb
   rw [show wst - 1+1=wst by omega] at hu
   rw [hbt,Tr.rR,show (((true.toNat:Nat):Int) == 1)=true from rfl,zC,Tr.rB]
   refine (bindT hu).trans ?_
   dsimp only
   rw [Tr.rR,show ((0:Int) != 0)=false from rfl,zc,Tr.rT,w64_id (by omega),show ((wst - 1:Nat):Int)+1=(wst:Int) by omega,Nat.add_assoc])).trans ?_
 rw [Tr.run_csr,Tr.rB]
 dsimp only
 refine (bindT (a:=(true,(((a+(8+wst):Nat):Int),pk all),(k:Int),(o:Int),(wst:Int),0,0,0,0)) (by
  rw [Tr.rR,zT (by omega),zC,Tr.rT,zT (by omega)])).trans ?_
 rfl
theorem bodyF_eq (all:List Bool) (a W:Nat) (s:Sb) (l:List Int) (ok:SbOK s W l) (hb:all.length<=281474976710656)
  (h:Bat all a (sgBits (W - s.wst) ((mids s.wst l).take (s.warmN l.length))++(s.lpcB++s.resB l.length (mids s.wst l)))) :
  LQ.bodyF ((l.length:Int),((W - s.wst:Nat):Int)) ((a:Int),pk all) (s.k:Int) (s.o:Int) (s.wst:Int) 0 0 [] 0 0 [] []=some ((mids s.wst l,true),(((a+(sgBits (W - s.wst) ((mids s.wst l).take (s.warmN l.length))++(s.lpcB++s.resB l.length (mids s.wst l))).length:Nat):Int),pk all),(s.k:Int),(s.o:Int),(s.wst:Int),(s.pr:Int),(s.sf:Int),s.cs,(s.m:Int),(s.ro:Int),s.ps,s.es):=by
 obtain ⟨b1,b2,w1,w2,ws,dv,ft,k3,low,flat,con,fix,lpc,ob,ri,w31⟩:=ok
 have hmf:=mids_fits W s.wst l ws ft
 have hml:=mids_len s.wst l
 generalize hmm:mids s.wst l=mm at *
 obtain ⟨k,o,wst,pr,sf,m,ro,cs,ps,es⟩:=s
 simp only at *
 have hwn:Sb.warmN ⟨k,o,wst,pr,sf,m,ro,cs,ps,es⟩ l.length<=l.length:=by
  unfold Sb.warmN
  simp only
  split
  ·exact b1
  ·split
   ·exact Nat.le_refl _
   ·exact ob
 have hwarm:LQ.warm ((k:Int),(o:Int),(wst:Int),0,0,[],(0,0,[],[],()),()) (l.length:Int)=some ((Sb.warmN ⟨k,o,wst,pr,sf,m,ro,cs,ps,es⟩ l.length:Nat):Int):=by
  unfold LQ.warm LQ.warm.t Sb.warmN
  dsimp only
  by_cases h0:k=0
  ·rw [if_pos h0,Tr.rR,show ((k:Int) == 0)=true from beq_iff_eq.2 (by omega),zC,Tr.rT];rfl
  ·rw [if_neg h0,Tr.rR,show ((k:Int) == 0)=false from beq_eq_false_iff_ne.2 (by omega),zc,Tr.rR]
   by_cases h1:k=1
   ·rw [if_pos h1,show ((k:Int) == 1)=true from beq_iff_eq.2 (by omega),zC,Tr.rT]
   ·rw [if_neg h1,show ((k:Int) == 1)=false from beq_eq_false_iff_ne.2 (by omega),zc,Tr.rT]
 generalize hwv:Sb.warmN ⟨k,o,wst,pr,sf,m,ro,cs,ps,es⟩ l.length=wn at *
 have htl:(mm.take wn).length=wn:=by rw [List.length_take];omega
 have hnum:=numbers_eq all a (W - wst) (mm.take wn) h.left (by omega) (by omega) (fun n hn=>hmf n (List.mem_of_mem_take hn)) (by omega) hb
 rw [htl] at hnum
 have hsl:(sgBits (W - wst) (mm.take wn)).length=wn*(W - wst):=by rw [sgBits_len,htl]
 unfold LQ.bodyF LQ.bodyF.t
 dsimp only
 rw [Tr.rB]
 refine (bindT hwarm).trans ?_
 rw [Tr.rB]
 refine (bindT hnum).trans ?_
 rw [Tr.rB]
 dsimp only
 have hk1:((k:Int) == 1)=decide (k=1):=by rw [Bool.eq_iff_iff,beq_iff_eq,decide_eq_true_eq];omega
 have hk0:((k:Int) == 0)=decide (k=0):=by rw [Bool.eq_iff_iff,beq_iff_eq,decide_eq_true_eq];omega
 have hk3:((k:Int) == 3)=decide (k=3):=by rw [Bool.eq_iff_iff,beq_iff_eq,decide_eq_true_eq];omega
 have hk2:((k:Int) == 2)=decide (k=2):=by rw [Bool.eq_iff_iff,beq_iff_eq,decide_eq_true_eq];omega
 refine (bindT (a:=(decide (k=1),(((a+wn*(W - wst):Nat):Int),pk all),(k:Int),(o:Int),(wst:Int),0,0,[],0,0,[],[])) (by
  rw [Bool.not_true,Tr.rR,zc,Tr.rT,hk1])).trans ?_
 dsimp only
 rw [Tr.rR,hk0]
 by_cases e1:k=1
 ·subst e1
  obtain ⟨rfl,rfl,rfl,rfl,rfl⟩:=low (by decide)
  obtain ⟨rfl,rfl,rfl⟩:=flat (by decide)
  have hwn1:wn=l.length:=by rw [←hwv];rfl
  rw [zT rfl,zC,Tr.rT,zL,hsl,hwn1,List.take_of_length_le (by omega)]
  rfl
 rw [zF e1,zc,Tr.rR]
 by_cases e0:k=0
 ·subst e0
  obtain ⟨rfl,rfl,rfl,rfl,rfl⟩:=low (by decide)
  obtain ⟨rfl,rfl,rfl⟩:=flat (by decide)
  have hwn1:wn=1:=by rw [←hwv];rfl
  subst hwn1
  have hm0:mm.take 1=[mm.getD 0 0]:=by rw [List.take_succ_eq_append_getElem (by omega),getD_lt _ _ (by omega)];rfl
  have hrep:List.replicate l.length (mm.getD 0 0)=mm:=by
   rw [←hml]
   refine (List.eq_replicate_iff.2 ⟨rfl,fun x hx=>?_⟩).symm
   rw [←hmm] at hx ⊢
   obtain ⟨y,hy,rfl⟩:=List.mem_map.1 hx
   have g1:l.getD 0 0=l[0]:=getD_lt _ _ (by omega)
   have g2:(mids wst l).getD 0 0=l[0] / ((2 ^ wst:Nat):Int):=by
    rw [getD_lt _ _ (by rw [mids_len];omega)]
    simp [mids]
   rw [con rfl y hy,g2,g1]
  have hrp:=RepI_eq (mm.getD 0 0) l.length b1 b2
  rw [hrep] at hrp
  rw [zT rfl,zC,Tr.rB,hm0]
  refine (bindT hrp).trans ?_
  rw [Tr.rT,←hm0,zL,hsl]
  rfl
 rw [zF e0,zc,Tr.rB,hk3]
 have hk23:2<=k:=by omega
 have hwno:wn=o:=by rw [←hwv];unfold Sb.warmN;simp only;rw [if_neg e0,if_neg e1]
 have hri:=ri hk23
 have hrB:Sb.resB ⟨k,o,wst,pr,sf,m,ro,cs,ps,es⟩ l.length mm=riceB m ro ps es (l.length / 2 ^ ro) o (Sb.res ⟨k,o,wst,pr,sf,m,ro,cs,ps,es⟩ mm):=by unfold Sb.resB;simp only;rw [if_neg (by omega)]
 rw [hrB] at h ⊢
 have h2:=h.right
 rw [hsl] at h2
 have hrng:∀ x∈mm,-9223372036854775808<=x/\x<9223372036854775808:=fun x hx=>fitsW_inR _ x (by omega) (hmf x hx)
 have hdec:=rDec_eq all (a+wn*(W - wst)+(Sb.lpcB ⟨k,o,wst,pr,sf,m,ro,cs,ps,es⟩).length) m ro l.length o ps es _ hri h2.right hb
 refine (bindT (a:=(false,(((a+wn*(W - wst)+(Sb.lpcB ⟨k,o,wst,pr,sf,m,ro,cs,ps,es⟩).length:Nat):Int),pk all),(k:Int),(o:Int),(wst:Int),(pr:Int),(sf:Int),cs,0,0,[],[])) (by
  by_cases e3:k=3
  ·obtain ⟨l1,l2,l3,l4,l5,l6,l7⟩:=lpc e3
   have hlp:Sb.lpcB ⟨k,o,wst,pr,sf,m,ro,cs,ps,es⟩=bitsOf (pr - 1) 4++(bitsOf sf 5++sgBits pr cs):=by unfold Sb.lpcB;simp only;rw [if_pos e3]
   have h3:=h2.left
   rw [hlp] at h3 ⊢
   have hc:=coefs_eq all (a+wn*(W - wst)) k o wst pr sf 0 0 cs [] [] 0 0 [] h3 l3 l4 l5 l7 l6 l2 hb
   rw [zT e3,Tr.rR,zC,Tr.rB]
   refine (bindT hc).trans ?_
   rw [Tr.rT,zL,zL,zG,zG,sgBits_len,l6]
   have:a+wn*(W - wst)+9+o*pr=a+wn*(W - wst)+(4+(5+o*pr)):=by omega
   rw [this]
   rfl
  ·obtain ⟨rfl,rfl,rfl⟩:=flat (by omega)
   have hlp:Sb.lpcB ⟨k,o,wst,0,0,m,ro,[],ps,es⟩=[]:=by unfold Sb.lpcB;simp only;rw [if_neg e3]
   rw [hlp,zF e3,Tr.rR,zc,Tr.rT]
   rfl)).trans ?_
 dsimp only
 rw [Tr.rR,zc,Tr.rB]
 refine (bindT hdec).trans ?_
 dsimp only
 rw [Tr.rR,show ((0:Int) != 0)=false from rfl,zc,Tr.rB,hk2]
 have hfin:a+wn*(W - wst)+(Sb.lpcB ⟨k,o,wst,pr,sf,m,ro,cs,ps,es⟩).length+(riceB m ro ps es (l.length / 2 ^ ro) o (Sb.res ⟨k,o,wst,pr,sf,m,ro,cs,ps,es⟩ mm)).length=a+(sgBits (W - wst) (mm.take wn)++(Sb.lpcB ⟨k,o,wst,pr,sf,m,ro,cs,ps,es⟩++riceB m ro ps es (l.length / 2 ^ ro) o (Sb.res ⟨k,o,wst,pr,sf,m,ro,cs,ps,es⟩ mm))).length:=by
  rw [zL,zL,hsl];omega
 rw [hfin]
 refine (bindT (a:=(mm,0,(((a+(sgBits (W - wst) (mm.take wn)++(Sb.lpcB ⟨k,o,wst,pr,sf,m,ro,cs,ps,es⟩++riceB m ro ps es (l.length / 2 ^ ro) o (Sb.res ⟨k,o,wst,pr,sf,m,ro,cs,ps,es⟩ mm))).length:Nat):Int),pk all),(k:Int),(o:Int),(wst:Int),(pr:Int),(sf:Int),cs,(m:Int),(ro:Int),ps,es)) (by
  rw [hwno]
  by_cases e2:k=2
  ·have hu:=Unfixed_eq o mm (fix e2) (by omega) (by omega) hrng
   have hres:Sb.res ⟨k,o,wst,pr,sf,m,ro,cs,ps,es⟩ mm=leftV (fixedC o) 0 o mm:=by unfold Sb.res;simp only;rw [if_pos e2]
   rw [zT e2,Tr.rR,zC,Tr.rB,hres]
   refine (bindT hu).trans ?_
   rfl
  ·obtain ⟨l1,l2,l3,l4,l5,l6,l7⟩:=lpc (by omega)
   have hu:=Unlpc_eq cs mm sf (by omega) (by omega) (by omega) (by omega) (by omega) hrng
   rw [l6] at hu
   have hres:Sb.res ⟨k,o,wst,pr,sf,m,ro,cs,ps,es⟩ mm=leftV cs sf o mm:=by unfold Sb.res;simp only;rw [if_neg e2]
   rw [zF e2,Tr.rR,zc,Tr.rB,hres]
   refine (bindT hu).trans ?_
   rfl)).trans ?_
 rfl
end
section
set_option maxRecDepth 10000
open Go.LM
theorem r8Same_self (m ro:Int) (ps es:List Int) (h1:ps.length<=1048576) (h2:es.length<=1048576):LQ.r8Same (m,ro,ps,es,()) (m,ro,ps,es,())=some true:=by
 have l0:=loopO_steps (f:=fun (d:Int×(Int×Int×List Int×List Int)×Int×Int×List Int×List Int)=>(LQ.r8Same.l0 d.1 d.2.1 d.2.2.1 d.2.2.2.1 d.2.2.2.2.1 d.2.2.2.2.2).run) (fun i=>((i:Int),(m,ro,ps,es),m,ro,ps,es)) (r:=.inr ((m,ro,ps,es),m,ro,ps,es)) ps.length (fun i hi=>by
   unfold LQ.r8Same.l0
   dsimp only
   rw [Tr.rR,zT (by simp only [zN];omega),zC,Tr.rN _ (by simp only [zN];omega),Tr.rN _ (by simp only [zN];omega),bne_self_eq_false,Tr.rR,zc,Tr.rT,w64_id (by omega)]
   rfl) (by
   unfold LQ.r8Same.l0
   dsimp only
   rw [Tr.rR,zF (by simp only [zN];omega),zc,Tr.rT])
 have l1:=loopO_steps (f:=fun (d:Int×(Int×Int×List Int×List Int)×Int×Int×List Int×List Int)=>(LQ.r8Same.l1 d.1 d.2.1 d.2.2.1 d.2.2.2.1 d.2.2.2.2.1 d.2.2.2.2.2).run) (fun i=>((i:Int),(m,ro,ps,es),m,ro,ps,es)) (r:=.inr ()) es.length (fun i hi=>by
   unfold LQ.r8Same.l1
   dsimp only
   rw [Tr.rR,zT (by simp only [zN];omega),zC,Tr.rN _ (by simp only [zN];omega),Tr.rN _ (by simp only [zN];omega),bne_self_eq_false,Tr.rR,zc,Tr.rT,w64_id (by omega)]
   rfl) (by
   unfold LQ.r8Same.l1
   dsimp only
   rw [Tr.rR,zF (by simp only [zN];omega),zc,Tr.rT])
 unfold LQ.r8Same LQ.r8Same.t
 dsimp only
 rw [Tr.rB]
 refine (bindT (a:=(false,(m,ro,ps,es),m,ro,ps,es)) (by
  simp only [bne_self_eq_false,Tr.rR,zc,Tr.rT])).trans ?_
 dsimp only
 rw [Tr.rR,zc,Tr.rB]
 refine (bindT l0).trans ?_
 rw [Tr.run_csr,Tr.rB]
 dsimp only
 refine (bindT l1).trans ?_
 rfl
theorem r10Same_self (s:SubD) (h0:s.2.2.2.2.2.1.length<=1048576) (h1:s.2.2.2.2.2.2.1.2.2.1.length<=1048576) (h2:s.2.2.2.2.2.2.1.2.2.2.1.length<=1048576):LQ.r10Same s s=some true:=by
 obtain ⟨k,o,w,p,sf,cs,⟨m,ro,ps,es,u⟩,u2⟩:=s
 have a1:=r8Same_self m ro ps es h1 h2
 have a0:=rInts_self cs h0
 unfold LQ.r10Same LQ.r10Same.t
 dsimp only
 simp only [beq_self_eq_true,Tr.rB,Tr.rR,zC,a0,zE,a1,Tr.rT]
end
end Go.Proofs.YtedcnpankkaboaaGreat.Dg
section
set_option maxRecDepth 10000
namespace Go.LM
open Go
theorem andn_nil (m:Int) (h:inR m) (h0:w64 (bitsI BinOp.andNot IntKind.i64 m 1)=0):m=0\/m=1:=by
 have hx:bitsI BinOp.andNot IntKind.i64 m 1=((BitVec.ofInt 64 m &&& ~~~(BitVec.ofInt 64 1)).toNat:Int):=rfl
 rw [hx] at h0
 have hlt:=(BitVec.ofInt 64 m &&& ~~~(BitVec.ofInt 64 1)).isLt
 generalize hq:(BitVec.ofInt 64 m &&& ~~~(BitVec.ofInt 64 1)).toNat=q at h0 hlt
 have hq0:q=0:=by
  have h1:IntKind.i64.wrap (q:Int)=0:=h0
  rw [IntKind.wrap_i64] at h1;omega
 rw [hq0] at hq
 have hz:BitVec.ofInt 64 m &&& ~~~(BitVec.ofInt 64 1)=0#64:=BitVec.eq_of_toNat_eq hq
 have hid:BitVec.ofInt 64 m=BitVec.ofInt 64 m &&& BitVec.ofInt 64 1:=by
  have:BitVec.ofInt 64 m=(BitVec.ofInt 64 m &&& ~~~(BitVec.ofInt 64 1)) ||| (BitVec.ofInt 64 m &&& BitVec.ofInt 64 1):=by
   apply BitVec.eq_of_getLsbD_eq
   intro i hi
   simp only [BitVec.getLsbD_or,BitVec.getLsbD_and,BitVec.getLsbD_not,zT hi,Bool.true_and]
   cases (BitVec.ofInt 64 m).getLsbD i<;>cases (BitVec.ofInt 64 1).getLsbD i<;>rfl
  rw [hz,BitVec.zero_or] at this
  exact this
 have hn:(BitVec.ofInt 64 m).toNat<2:=by
  rw [hid,BitVec.toNat_and,show (BitVec.ofInt 64 1).toNat=2 ^ 1 - 1 by decide,Nat.and_two_pow_sub_one_eq_mod]
  omega
 rw [BitVec.toNat_ofInt] at hn
 unfold inR at h
 omega
theorem fit_of (n:Int) (W:Nat) (h1:1<=W) (h2:W<=63) (h:inR n) (e:n / ((2 ^ (W - 1):Nat):Int)=n / 9223372036854775808):fitsW W n:=by
 have hp0:0<2 ^ (W - 1):=Nat.pow_pos (by decide)
 unfold fitsW
 unfold inR at h
 generalize 2 ^ (W - 1)=p at *
 have hm:=Int.emod_nonneg n (b:=(p:Int)) (by omega)
 have hm2:=Int.emod_lt_of_pos n (b:=(p:Int)) (by omega)
 have hd:=Int.mul_ediv_add_emod n (p:Int)
 by_cases hn:n<0
 ·have:n / 9223372036854775808=-1:=by omega
  rw [e,this,Int.mul_neg,Int.mul_one] at hd
  omega
 ·have:n / 9223372036854775808=0:=by omega
  rw [e,this,Int.mul_zero] at hd
  omega
end Go.LM
namespace Go.Proofs.YtedcnpankkaboaaGreat.Dg
open Go.LM
theorem sfits_dec (n:Int) (W:Nat) (h1:1<=W) (h2:W<=63) (h:inR n):(fitsW W n/\LQ.sfits n (W:Int)=some true)\/LQ.sfits n (W:Int)=some false:=by
 by_cases hf:fitsW W n
 ·exact .inl ⟨hf,sfits_eq n W h1 h2 hf⟩
 ·right
  unfold LQ.sfits LQ.sfits.t
  have e1:w64 ((W:Int) - 1)=((W - 1:Nat):Int):=by rw [w64_id (by omega)];omega
  rw [e1,Tr.rN _ (by omega),Tr.rT,p2_nat _ _ (by omega)]
  have:(n / ((2 ^ (W - 1):Nat):Int) == n / 9223372036854775808)=false:=by
   cases hb:(n / ((2 ^ (W - 1):Nat):Int) == n / 9223372036854775808) with
   |false=>rfl
   |true=>exact absurd (fit_of n W h1 h2 h (beq_iff_eq.1 hb)) hf
  rw [this]
structure RcOK (m ro:Nat) (ps es:List Int) (block order:Nat):Prop where
 hm:m=0\/m=1
 ro15:ro<=15
 b1:1<=block
 b2:block<=65535
 o32:order<=32
 dv:block / 2 ^ ro*2 ^ ro=block
 ge:order<=block / 2 ^ ro
 lp:ps.length=2 ^ ro
 le:es.length=2 ^ ro
 kk:∀ i,i<2 ^ ro->0<=ps.getD i 0/\ps.getD i 0<((2 ^ (4+m) - 1:Nat):Int)/\-1<=es.getD i 0/\es.getD i 0<=31/\(0<=es.getD i 0->ps.getD i 0=0)
theorem rshape_dec (m ro:Int) (block order:Nat) (ps es:List Int) (hm:inR m) (hb:1<=block/\block<=65535) (ho:order<=32) :
  (∃ m' ro':Nat,m=(m':Int)/\ro=(ro':Int)/\(m'=0\/m'=1)/\ro'<=15/\block / 2 ^ ro'*2 ^ ro'=block/\order<=block / 2 ^ ro'/\LQ.rshape (m,ro,ps,es,()) (block:Int) (order:Int)=some true)\/LQ.rshape (m,ro,ps,es,()) (block:Int) (order:Int)=some false:=by
 have d3:decide ((block:Int)<1)=false:=zF (by omega)
 have d4:decide ((block:Int)>65535)=false:=zF (by omega)
 have d5:decide ((order:Int)<0)=false:=zF (by omega)
 have d6:decide ((order:Int)>32)=false:=zF (by omega)
 by_cases c0:w64 (bitsI BinOp.andNot IntKind.i64 m 1)=0
 rotate_left
 ·right
  unfold LQ.rshape LQ.rshape.t
  dsimp only
  rw [Tr.rB,Tr.rR,bne_iff_ne.2 c0,zC,Tr.rT,zE,Tr.rR];rfl
 have hm01:=andn_nil m hm c0
 have d0:(w64 (bitsI BinOp.andNot IntKind.i64 m 1) != 0)=false:=by rw [c0];rfl
 by_cases c1:ro<0
 ·right
  unfold LQ.rshape LQ.rshape.t
  dsimp only
  rw [Tr.rB,Tr.rR,d0,zc,Tr.rR,zT c1,zC,Tr.rT,zE,Tr.rR];rfl
 by_cases c2:ro>15
 ·right
  unfold LQ.rshape LQ.rshape.t
  dsimp only
  rw [Tr.rB,Tr.rR,d0,zc,Tr.rR,zF c1,zc,Tr.rR,zT c2,zC,Tr.rT,zE,Tr.rR];rfl
 obtain ⟨ro',rfl⟩:∃ ro':Nat,ro=(ro':Int):=⟨ro.toNat,by omega⟩
 obtain ⟨m',rfl⟩:∃ m':Nat,m=(m':Int):=⟨m.toNat,by omega⟩
 by_cases c3:block / 2 ^ ro'*2 ^ ro'=block/\order<=block / 2 ^ ro'
 ·exact .inl ⟨m',ro',rfl,rfl,by omega,by omega,c3.1,c3.2,rshape_eq m' ro' block order ps es (by omega) (by omega) hb ho c3.1 c3.2⟩
 ·right
  unfold LQ.rshape LQ.rshape.t
  dsimp only
  rw [Tr.rB]
  refine (bindT (a:=(false,(m':Int),(ro':Int),ps,es)) (by
   rw [Tr.rR,d0,zc,Tr.rR,zF c1,zc,Tr.rR,zF c2,zc,Tr.rR,d3,zc,Tr.rR,d4,zc,Tr.rR,d5,zc,Tr.rT,d6])).trans ?_
  dsimp only
  have e1:(block:Int) / ((2 ^ ro':Nat):Int)*((2 ^ ro':Nat):Int)=((block / 2 ^ ro'*2 ^ ro':Nat):Int):=rfl
  have e2:(block:Int) / ((2 ^ ro':Nat):Int)=((block / 2 ^ ro':Nat):Int):=rfl
  have hle:block / 2 ^ ro'*2 ^ ro'<=block:=Nat.div_mul_le_self _ _
  rw [Tr.rR,zc,Tr.rN _ (by omega),Tr.rB,Tr.rN _ (by omega),Tr.rR,p2_nat _ _ (by omega),e1,e2]
  generalize block / 2 ^ ro'*2 ^ ro'=u at *
  generalize block / 2 ^ ro'=v at *
  rw [w64_id (by omega)]
  by_cases c4:u=block
  ·rw [show ((u:Int) == (block:Int))=true from beq_iff_eq.2 (by omega),zC,Tr.rT,zE,zF (by omega)];rfl
  ·rw [show ((u:Int) == (block:Int))=false from beq_eq_false_iff_ne.2 (by omega),zc,Tr.rT,zE];rfl
end Go.Proofs.YtedcnpankkaboaaGreat.Dg
end
namespace Go.Proofs.YtedcnpankkaboaaGreat.Dg
section
set_option maxRecDepth 10000
open Go.LM
def ItOK (k e n:Int):Prop:=inR n/\(e<0->zz n / 2 ^ k.toNat<=16777216)/\(0<e->fitsW e.toNat n)/\(e=0->n=0)
end
section
set_option maxRecDepth 10000
open Go.LM
theorem itB_len (k e n:Int) (hk:0<=k/\k<=30) (he:e<=31) (h:ItOK k e n):(itB k e n).length<=16777250:=by
 unfold itB
 split
 ·rename_i hn
  have:=h.2.1 hn
  unfold riB
  rw [zL,unaB_len,zG]
  generalize zz n / 2 ^ k.toNat=q at this
  omega
 ·split
  ·rw [zG];omega
  ·simp
theorem flat_len {α:Type} (g:α->List Bool) (c:Nat):∀ (l:List α),(∀ x∈l,(g x).length<=c)->(l.flatMap g).length<=l.length*c
 | [],_=>by simp
 |x::l,h=>by
  have h1:=flat_len g c l (fun y hy=>h y (List.mem_cons_of_mem _ hy))
  have h2:=h x (by simp)
  rw [List.flatMap_cons,zL,List.length_cons,Nat.add_mul,Nat.one_mul];omega
theorem parts_len (m n o:Nat) (ps es l:List Int) (N:Nat) (hm:m<=1) (hll:l.length=N*n - o) (h:∀ i,i<N->(ptG m ps es l o n i).length<=10+(cutN l o n i).length*16777250):∀ i,i<=N->((List.range i).flatMap (ptG m ps es l o n)).length<=i*10+(i*n - o)*16777250:=by
 intro i
 induction i with
 |zero=>intro _;simp
 |succ i ih=>
  intro hi
  have h1:=ih (by omega)
  have h2:=h i (by omega)
  rw [cutN_len l o n i N (by omega) hll] at h2
  rw [List.range_succ,List.flatMap_append,zL]
  simp only [List.flatMap_cons,List.flatMap_nil,List.append_nil]
  have hin:i*n+n=(i+1)*n:=by rw [Nat.add_mul,Nat.one_mul]
  generalize hA:i*n=A at *
  generalize hB:(i+1)*n=B at *
  have:(A - o)*16777250+(B - o - (A - o))*16777250=(B - o)*16777250:=by rw [←Nat.add_mul];congr 1;omega
  omega
end
section
set_option maxRecDepth 10000
open Go.LM
structure CkOK (s:Sb) (W b:Nat):Prop where
 b1:1<=b
 b2:b<=65535
 w1:1<=W
 w2:W<=33
 ws:s.wst<W
 k3:s.k<=3
 low:s.k<2->s.o=0/\s.m=0/\s.ro=0/\s.ps=[]/\s.es=[]
 flat:s.k<=2->s.pr=0/\s.sf=0/\s.cs=[]
 fix:s.k=2->s.o<=4
 lpc:s.k=3->1<=s.o/\s.o<=32/\1<=s.pr/\s.pr<=15/\s.sf<=15/\s.cs.length=s.o/\∀ c∈s.cs,fitsW s.pr c
 ob:s.o<=b
 rc:2<=s.k->RcOK s.m s.ro s.ps s.es b s.o/\LQ.rCheck ((s.m:Int),(s.ro:Int),s.ps,s.es,()) (b:Int) (s.o:Int)=some 0
end
section
set_option maxRecDepth 10000
open Go.LM
structure GoOK (s:Sb) (W:Nat) (l:List Int):Prop where
 dv:∀ n∈l,n / ((2 ^ s.wst:Nat):Int)*((2 ^ s.wst:Nat):Int)=n
 ft:∀ n∈l,fitsW W n
 con:s.k=0->∀ n∈l,n=l.getD 0 0
 w31:s.wst<=31
end
section
set_option maxRecDepth 10000
open Go.LM
abbrev StD:Type:=Int×Int×Int×Int×Int×List Int×Int×Int×List Int×List Int
def Sb.st (s:Sb):StD:=((s.k:Int),(s.o:Int),(s.wst:Int),(s.pr:Int),(s.sf:Int),s.cs,(s.m:Int),(s.ro:Int),s.ps,s.es)
theorem Una1_eq (n:Nat) (bs:List Bool) (hn:n<=16777216) (hb:bs.length<=70368744177664):LQ.Una1 (n:Int) (bs.length:Int) (pk bs)=some (0,((bs.length+(n+1):Nat):Int),pk (bs++unaB n)):=by
 have h:=una1_eq n bs (by omega)
 unfold LQ.Una1 LQ.Una1.t
 have d1:decide ((n:Int)<0)=false:=zF (by omega)
 have d2:decide ((n:Int)>16777216)=false:=zF (by omega)
 rw [Tr.rR,zc,Tr.rB,Tr.rR,d1,zc,Tr.rT,zE,d2]
 dsimp only
 rw [Tr.rR,zc,Tr.rB,h]
 rfl
theorem wst_part (wst:Nat) (bs:List Bool) (st:StD) (hw:wst<=33) (hb:bs.length<=70368744177000) :
  (Tr.br ((wst:Int) == (0:Int)) (Tr.bind (Int×Int×List UInt8) (LQ.put1 ((0:Int),(1:Int)) (bs.length:Int) (pk bs)) ((0:Int),(0:Int),[]) fun (r3:Int×Int×List UInt8)=>Tr.ret (r3.2.1,st,r3.2.2)) (Tr.bind (Int×Int×List UInt8) (LQ.put1 ((1:Int),(1:Int)) (bs.length:Int) (pk bs)) ((0:Int),(0:Int),[]) fun (r4:Int×Int×List UInt8)=>Tr.bind (Int×Int×List UInt8) (LQ.Una1 (w64 ((wst:Int) - (1:Int))) r4.2.1 r4.2.2) ((0:Int),(0:Int),[]) fun (r5:Int×Int×List UInt8)=>Tr.ret (r5.2.1,st,r5.2.2))).run
  = some (((bs.length+(wst+1):Nat):Int),st,pk (bs++wsBits wst)):=by
 rw [Tr.rR]
 by_cases hz:wst=0
 ·subst hz
  have hp2:=put1_eq bs 0 1 (by decide) (by decide) (by omega)
  rw [show (((0:Nat):Int) == 0)=true from rfl,zC,Tr.rB]
  refine (bindT hp2).trans ?_
  rfl
 ·have hp2:=put1_eq bs 1 1 (by decide) (by decide) (by omega)
  have hb2:(bs++bitsOf 1 1).length=bs.length+1:=by rw [zL,zG]
  have hu:=Una1_eq (wst - 1) (bs++bitsOf 1 1) (by omega) (by omega)
  rw [hb2] at hu
  have hw1:w64 ((wst:Int) - 1)=((wst - 1:Nat):Int):=by rw [w64_id (by omega)];omega
  rw [show ((wst:Int) == 0)=false from beq_eq_false_iff_ne.2 (by omega),zc,Tr.rB]
  refine (bindT hp2).trans ?_
  dsimp only
  rw [Tr.rB,hw1]
  refine (bindT hu).trans ?_
  rw [Tr.rT]
  have e1:bs.length+1+(wst - 1+1)=bs.length+(wst+1):=by omega
  have e2:bs++bitsOf 1 1++unaB (wst - 1)=bs++wsBits wst:=by
   unfold wsBits unaB
   rw [show (wst == 0)=false from beq_eq_false_iff_ne.2 hz,zc,List.append_assoc]
  rw [e1,e2]
theorem typ_eq (s:Sb) (k3:s.k<=3) (ho:s.o<=32) (fix:s.k=2->s.o<=4):(0<=(s.k:Int)/\(s.k:Int)<Int.ofNat (((((List.replicate (4:Nat) (0:Int)).set (0:Nat) (0:Int)).set (1:Nat) (1:Int)).set (2:Nat) (w64 ((8:Int)+(s.o:Int)))).set (3:Nat) (w64 ((31:Int)+(s.o:Int)))).length)
  /\ IntKind.u64.wrap ((((((List.replicate (4:Nat) (0:Int)).set (0:Nat) (0:Int)).set (1:Nat) (1:Int)).set (2:Nat) (w64 ((8:Int)+(s.o:Int)))).set (3:Nat) (w64 ((31:Int)+(s.o:Int)))).getD (s.k:Int).toNat (0:Int))=(s.typ:Int)/\s.typ<128:=by
 obtain ⟨k,o,wst,pr,sf,m,ro,cs,ps,es⟩:=s
 simp only at *
 refine ⟨by simp only [List.length_set,List.length_replicate,zN];omega,?_⟩
 have w1:w64 ((8:Int)+(o:Int))=((8+o:Nat):Int):=by rw [w64_id (by omega)];omega
 have w2:w64 ((31:Int)+(o:Int))=((31+o:Nat):Int):=by rw [w64_id (by omega)];omega
 rw [w1,w2,Int.toNat_natCast]
 unfold Sb.typ
 have:k=0\/k=1\/k=2\/k=3:=by omega
 rcases this with rfl|rfl|rfl|rfl
 ·exact ⟨rfl,(by decide:(0:Nat)<128)⟩
 ·exact ⟨rfl,(by decide:(1:Nat)<128)⟩
 ·refine ⟨?_,?_⟩
  ·show IntKind.u64.wrap ((8+o:Nat):Int)=((8+o:Nat):Int)
   exact u64_id (by omega)
  ·show 8+o<128
   omega
 ·refine ⟨?_,?_⟩
  ·show IntKind.u64.wrap ((31+o:Nat):Int)=((31+o:Nat):Int)
   exact u64_id (by omega)
  ·show 31+o<128
   omega
theorem warm_eq (s:Sb) (n:Nat):LQ.warm s.D (n:Int)=some ((s.warmN n:Nat):Int):=by
 obtain ⟨k,o,wst,pr,sf,m,ro,cs,ps,es⟩:=s
 unfold LQ.warm LQ.warm.t Sb.warmN Sb.D
 dsimp only
 by_cases h0:k=0
 ·rw [if_pos h0,Tr.rR,show ((k:Int) == 0)=true from beq_iff_eq.2 (by omega),zC,Tr.rT];rfl
 ·rw [if_neg h0,Tr.rR,show ((k:Int) == 0)=false from beq_eq_false_iff_ne.2 (by omega),zc,Tr.rR]
  by_cases h1:k=1
  ·rw [if_pos h1,show ((k:Int) == 1)=true from beq_iff_eq.2 (by omega),zC,Tr.rT]
  ·rw [if_neg h1,show ((k:Int) == 1)=false from beq_eq_false_iff_ne.2 (by omega),zc,Tr.rT]
theorem sg_loop (f:Int×Int×StD×List UInt8->Option (Int×Int×StD×List UInt8⊕Int×StD×List UInt8)) (st:StD) (l:List Int) (V:Nat) (bs:List Bool)
  (hf:∀ i,i<l.length->∀ (B:List Bool),B.length<=bs.length+i*V->f ((i:Int),(B.length:Int),st,pk B)=some (.inl (((i+1:Nat):Int),((B.length+V:Nat):Int),st,pk (B++bitsOf (two64 (l.getD i 0)) V))))
  (he:∀ (B:List Bool),f ((l.length:Int),(B.length:Int),st,pk B)=some (.inr ((B.length:Int),st,pk B))) :
  loopO f ((0:Int),(bs.length:Int),st,pk bs)=some (((bs++sgBits V l).length:Int),st,pk (bs++sgBits V l)):=by
 have h:=loopO_steps (f:=f) (fun i=>((i:Int),((bs++sgBits V (l.take i)).length:Int),st,pk (bs++sgBits V (l.take i)))) (r:=(((bs++sgBits V l).length:Int),st,pk (bs++sgBits V l))) l.length (fun i hi=>by
  have hl:(bs++sgBits V (l.take i)).length=bs.length+i*V:=by rw [zL,sgBits_len,List.length_take,Nat.min_eq_left (by omega)]
  have hs:=hf i hi (bs++sgBits V (l.take i)) (by omega)
  rw [hs]
  have e1:sgBits V (l.take (i+1))=sgBits V (l.take i)++bitsOf (two64 (l.getD i 0)) V:=by
   rw [List.take_succ_eq_append_getElem hi,getD_lt _ _ hi]
   unfold sgBits two64
   rw [List.flatMap_append];simp
  have e2:(bs++sgBits V (l.take i)++bitsOf (two64 (l.getD i 0)) V).length=(bs++sgBits V (l.take i)).length+V:=by rw [zL,zG]
  rw [e1,←List.append_assoc,e2]) (by
  rw [List.take_of_length_le (Nat.le_refl _)]
  exact he _)
 simp only [List.take_zero] at h
 rw [show sgBits V []=[] from rfl,List.append_nil] at h
 exact h
theorem sb_of (s:Sb) (W:Nat) (l:List Int) (ck:CkOK s W l.length) (go:GoOK s W l) (ri:2<=s.k->RiOK s.m s.ro s.ps s.es l.length s.o (s.res (mids s.wst l))):SbOK s W l:=
 ⟨ck.b1,ck.b2,ck.w1,ck.w2,ck.ws,go.dv,go.ft,ck.k3,ck.low,ck.flat,go.con,ck.fix,ck.lpc,ck.ob,ri,go.w31⟩
end
section
set_option maxRecDepth 10000
open Go.LM
theorem riceB_len (m ro block o:Nat) (ps es l:List Int) (ri:RiOK m ro ps es block o l):(riceB m ro ps es (block / 2 ^ ro) o l).length<=6+2 ^ ro*10+l.length*16777250:=by
 obtain ⟨hm,ro15,b1,b2,o32,dv,ge,lp,le,ll,pt⟩:=ri
 have hll:l.length=2 ^ ro*(block / 2 ^ ro) - o:=by rw [Nat.mul_comm,dv,ll]
 have hNn:2 ^ ro*(block / 2 ^ ro)=block:=by rw [Nat.mul_comm];exact dv
 have hGl:∀ i,i<2 ^ ro->(ptG m ps es l o (block / 2 ^ ro) i).length<=10+(cutN l o (block / 2 ^ ro) i).length*16777250:=fun i hi=>by
  obtain ⟨hw,k0,k1,e0,e1,ke,it⟩:=pt i hi
  have h32:2 ^ (4+m)<=32:=by rcases hm with rfl|rfl<;>decide
  have hf:=flat_len (itB (ps.getD i 0) (es.getD i 0)) 16777250 (cutN l o (block / 2 ^ ro) i) (fun x hx=>itB_len _ _ _ ⟨k0,by omega⟩ e1 (it x hx))
  unfold ptG ptB
  rw [zL]
  have:(if es.getD i 0<0 then bitsOf (ps.getD i 0).toNat (4+m) else bitsOf (2 ^ (4+m) - 1) (4+m)++bitsOf (es.getD i 0).toNat 5).length<=10:=by
   split
   ·rw [zG];omega
   ·rw [zL,zG,zG];omega
  omega
 have h:=parts_len m (block / 2 ^ ro) o ps es l (2 ^ ro) (by omega) hll hGl (2 ^ ro) (Nat.le_refl _)
 rw [hNn,←ll] at h
 unfold riceB
 rw [zL,zL,zG,zG]
 omega
theorem bits_len (s:Sb) (W:Nat) (l:List Int) (ok:SbOK s W l):(s.bits W l).length<=3000000+l.length*16777250:=by
 obtain ⟨b1,b2,w1,w2,ws,dv,ft,k3,low,flat,con,fix,lpc,ob,ri,w31⟩:=ok
 have hml:=mids_len s.wst l
 have hwn:((mids s.wst l).take (s.warmN l.length)).length*(W - s.wst)<=65535*33:=Nat.mul_le_mul (by rw [List.length_take];omega) (by omega)
 have hlp:s.lpcB.length<=500:=by
  unfold Sb.lpcB
  split
  ·rename_i h3
   obtain ⟨l1,l2,l3,l4,l5,l6,l7⟩:=lpc h3
   rw [zL,zL,zG,zG,sgBits_len,l6]
   have:s.o*s.pr<=32*15:=Nat.mul_le_mul l2 l4
   omega
  ·simp
 have hrs:(s.resB l.length (mids s.wst l)).length<=6+32768*10+l.length*16777250:=by
  unfold Sb.resB
  split
  ·simp
  ·rename_i h2
   have h:=ri (by omega)
   have hr:=riceB_len s.m s.ro l.length s.o s.ps s.es _ h
   have hN:2 ^ s.ro<=2 ^ 15:=Nat.pow_le_pow_right (by decide) h.ro15
   have:(s.res (mids s.wst l)).length*16777250<=l.length*16777250:=Nat.mul_le_mul_right _ (by rw [h.ll];omega)
   omega
 unfold Sb.bits
 rw [zL,zL,zL,zL,zG,wsBits_len,sgBits_len]
 omega
theorem DecodeF_at (all:List Bool) (a W:Nat) (s:Sb) (l:List Int) (ok:SbOK s W l) (hb:all.length<=281474976710656) (h:Bat all a (s.bits W l)) :
  LQ.DecodeF ((l.length:Int),(W:Int)) (a:Int) (pk all)=some ((l,s.D,0),((a+(s.bits W l).length:Nat):Int),pk all):=by
 have okk:=ok
 obtain ⟨b1,b2,w1,w2,ws,dv,ft,k3,low,flat,con,fix,lpc,ob,ri,w31⟩:=okk
 have hhead:=head_eq all a W l.length s h.left hb ws w2 k3 (fun e=>(low e).1) fix (fun e=>⟨(lpc e).1,(lpc e).2.1⟩) ob
 have hr:=h.right
 rw [zL,zG,wsBits_len] at hr
 have hbody:=bodyF_eq all (a+(7+(s.wst+1))) W s l ok hb hr
 have hcon:=ConG_eq (mids s.wst l) (W:Int) (s.k:Int) (s.o:Int) (s.pr:Int) (s.sf:Int) (s.m:Int) (s.ro:Int) s.wst (W - s.wst) s.cs s.ps s.es (by rw [show s.wst+(W - s.wst)=W by omega]) (by omega) (by omega) (by omega) (mids_fits W s.wst l ws ft) (by rw [mids_len];omega)
 have huns:=Unshift_eq l s.wst (by omega) (by omega) (fun n hn=>⟨dv n hn,fitsW_inR W n (by omega) (ft n hn)⟩)
 have hlen:a+(s.bits W l).length=a+(7+(s.wst+1))+(sgBits (W - s.wst) ((mids s.wst l).take (s.warmN l.length))++(s.lpcB++s.resB l.length (mids s.wst l))).length:=by
  unfold Sb.bits
  generalize sgBits (W - s.wst) ((mids s.wst l).take (s.warmN l.length))++(s.lpcB++s.resB l.length (mids s.wst l))=X
  rw [zL,zL,zG,wsBits_len];omega
 unfold LQ.DecodeF LQ.DecodeF.t
 dsimp only
 have d1:decide ((l.length:Int)<1)=false:=zF (by omega)
 have d2:decide ((l.length:Int)>65535)=false:=zF (by omega)
 have d3:decide ((W:Int)<1)=false:=zF (by omega)
 have d4:decide ((W:Int)>33)=false:=zF (by omega)
 rw [Tr.rB]
 refine (bindT (a:=(false,((a:Int),pk all),(W:Int),0,0,0,0,0,0,0)) (by
  rw [Tr.rR,zc,Tr.rR,d1,zc,Tr.rR,d2,zc,Tr.rR,d3,zc,Tr.rT,d4])).trans ?_
 dsimp only
 rw [Tr.rR,zc,Tr.rB]
 refine (bindT hhead).trans ?_
 dsimp only
 have hwv:w64 ((W:Int) - (s.wst:Int))=((W - s.wst:Nat):Int):=by rw [w64_id (by omega)];omega
 rw [Bool.not_true,Tr.rR,zc,Tr.rB,hwv,show a+(8+s.wst)=a+(7+(s.wst+1)) by omega]
 refine (bindT hbody).trans ?_
 dsimp only
 rw [Tr.rB,←hlen]
 refine (bindT (a:=(false,(((a+(s.bits W l).length:Nat):Int),pk all),(0,0,0,0,0,0,0),(s.k:Int),(s.o:Int),(s.wst:Int),(s.pr:Int),(s.sf:Int),s.cs,(s.m:Int),(s.ro:Int),s.ps,s.es)) (by
  rw [Bool.not_true,Tr.rR,zc,Tr.rB]
  refine (bindT hcon).trans ?_
  rfl)).trans ?_
 dsimp only
 rw [Tr.rR,zc,Tr.rB]
 refine (bindT huns).trans ?_
 rfl
end
section
set_option maxRecDepth 10000
open Go.LM
theorem encF_low (s:Sb) (hk2:¬ 2<=s.k) (W:Nat) (l:List Int) (bs:List Bool) (ck:CkOK s W l.length) (go:GoOK s W l) (hC:LQ.Check s.D (l.length:Int) (W:Int)=some 0) (hG:LQ.goes s.D (W:Int) l=some (mids s.wst l,true)) (hb:bs.length+3000000+l.length*16777250<=70368744177000) :
  SbOK s W l/\LQ.encF (s.D,(W:Int),l) (bs.length:Int) (pk bs)=some (0,((bs.length+(s.bits W l).length:Nat):Int),pk (bs++s.bits W l)):=by
 have ckk:=ck
 obtain ⟨b1,b2,w1,w2,ws,k3,low,flat,fix,lpc,ob,rc⟩:=ck
 have hmf:=mids_fits W s.wst l ws go.ft
 have hml:=mids_len s.wst l
 have ho32:s.o<=32:=by
  have:s.k<2\/s.k=2\/s.k=3:=by omega
  rcases this with h|h|h
  ·rw [(low h).1];omega
  ·have:=fix h;omega
  ·exact (lpc h).2.1
 obtain ⟨ht1,ht2,ht3⟩:=typ_eq s k3 ho32 fix
 have hwn:s.warmN l.length<=l.length:=by
  unfold Sb.warmN
  split
  ·exact b1
  ·split
   ·exact Nat.le_refl _
   ·exact ob
 have hwarm:=warm_eq s l.length
 generalize hmm:mids s.wst l=mm at *
 have hp1:=put1_eq bs s.typ 7 (by omega) (by decide) (by omega)
 have hB1:(bs++bitsOf s.typ 7).length=bs.length+7:=by rw [zL,zG]
 have hw0:=wst_part s.wst (bs++bitsOf s.typ 7) s.st (by omega) (by omega)
 rw [hB1] at hw0
 generalize hB2:bs++bitsOf s.typ 7++wsBits s.wst=B2 at hw0
 have hB2l:B2.length=bs.length+7+(s.wst+1):=by rw [←hB2,zL,hB1,wsBits_len]
 have hlt:List.take (((s.warmN l.length:Nat):Int) - 0).toNat (List.drop 0 mm)=mm.take (s.warmN l.length):=by rw [Int.sub_zero,Int.toNat_natCast];rfl
 generalize hwv:s.warmN l.length=wn at *
 have htl:(mm.take wn).length=wn:=by rw [List.length_take];omega
 have hWw:w64 ((W:Int) - (s.wst:Int))=((W - s.wst:Nat):Int):=by rw [w64_id (by omega)];omega
 have hV:wn*(W - s.wst)<=65535*33:=Nat.mul_le_mul (by omega) (by omega)
 have hB3l:(B2++sgBits (W - s.wst) (mm.take wn)).length<=bs.length+41+65535*33:=by rw [zL,sgBits_len,htl,hB2l];omega
 generalize hB3:B2++sgBits (W - s.wst) (mm.take wn)=B3 at hB3l
 have hst:s.st=((s.k:Int),(s.o:Int),(s.wst:Int),(s.pr:Int),(s.sf:Int),s.cs,(s.m:Int),(s.ro:Int),s.ps,s.es):=rfl
 have hfinal:∀ B4 B5:List Bool,B4=B3++s.lpcB->B5=B4++s.resB l.length mm->((B5.length:Nat):Int)=((bs.length+(s.bits W l).length:Nat):Int)/\B5=bs++s.bits W l:=fun B4 B5 e4 e5=>by
  have e:B5=bs++s.bits W l:=by
   rw [e5,e4,←hB3,←hB2]
   unfold Sb.bits
   rw [hmm,hwv]
   simp only [List.append_assoc]
  exact ⟨by rw [e,zL],e⟩
 have hitem:∀ i,i<(mm.take wn).length->fitsW (W - s.wst) ((mm.take wn).getD i 0):=fun i hi=>hmf _ (by rw [getD_lt _ _ hi];exact List.mem_of_mem_take (List.getElem_mem hi))
 ·
  refine ⟨sb_of s W l ckk go (fun h=>absurd h hk2),?_⟩
  have hlp:s.lpcB=[]:=by unfold Sb.lpcB;rw [if_neg (by omega)]
  have hrs:s.resB l.length mm=[]:=by unfold Sb.resB;rw [if_pos (by omega)]
  obtain ⟨f1,f2⟩:=hfinal B3 B3 (by rw [hlp,List.append_nil]) (by rw [hrs,List.append_nil])
  unfold LQ.encF LQ.encF.t
  dsimp only
  rw [Tr.rR,zc,Tr.rB]
  refine (bindT (a:=(0:Int)) hC).trans ?_
  rw [Tr.rR,show ((0:Int) != 0)=false from rfl,zc,Tr.rB]
  refine (bindT hG).trans ?_
  have d1:decide (s.D.1>=2)=false:=zF (by show ¬ ((s.k:Int)>=2);omega)
  rw [Bool.not_true,Tr.rR,zc,Tr.rR,d1,zc]
  refine (Tr.rN _ ht1).trans ?_
  rw [Tr.rB]
  refine (bindT (a:=((0:Int),((bs.length+7:Nat):Int),pk (bs++bitsOf s.typ 7))) (by
   exact (congrArg (fun x=>LQ.put1 (x,7) (bs.length:Int) (pk bs)) ht2).trans hp1)).trans ?_
  dsimp only
  rw [Tr.rB]
  refine (bindT (a:=(((bs.length+7+(s.wst+1):Nat):Int),s.st,pk B2)) hw0).trans ?_
  rw [←hB2l,Tr.rB]
  refine (bindT (a:=((wn:Nat):Int)) hwarm).trans ?_
  rw [Tr.rN _ (by simp only [zN];omega),Tr.rB]
  have hlo:=sg_loop (fun (d:Int×Int×StD×List UInt8)=>(LQ.encF.l2 (s.D,(W:Int),l) (mm,true) ((wn:Nat):Int) d.1 d.2.1 d.2.2.1 d.2.2.2).run) s.st (mm.take wn) (W - s.wst) B2 (fun i hi B hB=>by
   have hs:=sig1_eq B ((mm.take wn).getD i 0) (W - s.wst) (by omega) (by omega) (hitem i hi) (by
    have:i*(W - s.wst)<=65535*33:=Nat.mul_le_mul (by omega) (by omega)
    omega)
   unfold LQ.encF.l2
   dsimp only
   rw [hlt,Tr.rR,zT (by simp only [zN];omega),zC,Tr.rN _ (by simp only [zN];omega),Int.toNat_natCast,Tr.rB]
   refine (bindT (a:=((0:Int),((B.length+(W - s.wst):Nat):Int),pk (B++bitsOf (two64 ((mm.take wn).getD i 0)) (W - s.wst)))) (by
    rw [←hs]
    show LQ.sig1 (_,w64 ((W:Int) - (s.wst:Int))) _ _=_
    rw [hWw])).trans ?_
   rw [Tr.rT,w64_id (by omega)]
   rfl) (fun B=>by
   unfold LQ.encF.l2
   dsimp only
   rw [hlt,Tr.rR,zF (by simp only [zN];omega),zc,Tr.rT])
  rw [hB3] at hlo
  refine (bindT hlo).trans ?_
  rw [Tr.rB]
  refine (bindT (a:=(((B3.length:Nat):Int),s.st,pk B3)) (by
   have h3:(s.st.1 == 3)=false:=beq_eq_false_iff_ne.2 (by show ¬ (s.k:Int)=3;omega)
   dsimp only
   rw [Tr.rR,h3,zc,Tr.rT])).trans ?_
  rw [Tr.rB]
  refine (bindT (a:=(((B3.length:Nat):Int),pk B3)) (by
   have h3:decide (s.st.1>=2)=false:=zF (by show ¬ (s.k:Int)>=2;omega)
   dsimp only
   rw [Tr.rR,h3,zc,Tr.rT])).trans ?_
  rw [Tr.rT]
  dsimp only
  rw [f1,f2]
end
end Go.Proofs.YtedcnpankkaboaaGreat.Dg
