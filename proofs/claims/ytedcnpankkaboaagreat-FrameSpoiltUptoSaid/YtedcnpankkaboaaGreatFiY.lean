/- FiY: FiI FiJ FiK FiL FiM FiN. -/
import Derived.Test.YtedcnpankkaboaaGreatFiX
import Derived.Test.YtedcnpankkaboaaGreatFhX
set_option linter.unusedSimpArgs false
set_option linter.unusedVariables false
namespace Go.Proofs.YtedcnpankkaboaaGreat.Dg
section
set_option maxRecDepth 100000
open Go.LM
theorem shift_fits (W wst:Nat) (x:Int) (hw:wst<W) (h:fitsW (W - wst) x):fitsW W (x*((2 ^ wst:Nat):Int)):=by
 unfold fitsW at h ⊢
 have e:2 ^ (W - 1)=2 ^ (W - wst - 1)*2 ^ wst:=by rw [←Nat.pow_add];congr 1;omega
 rw [e,Int.natCast_mul]
 have hp:(0:Int)<((2 ^ wst:Nat):Int):=by have:=Nat.two_pow_pos wst;omega
 constructor
 ·rw [←Int.neg_mul];exact Int.mul_le_mul_of_nonneg_right h.1 (Int.le_of_lt hp)
 ·exact Int.mul_lt_mul_of_pos_right h.2 hp
theorem mids_shift (wst:Nat) (mm:List Int):mids wst (mm.map (fun x=>x*((2 ^ wst:Nat):Int)))=mm:=by
 unfold mids
 rw [List.map_map]
 refine Eq.trans (List.map_congr_left fun x _=>?_) (List.map_id mm)
 have hp:((2 ^ wst:Nat):Int)≠0:=by have:=Nat.two_pow_pos wst;omega
 exact Int.mul_ediv_cancel x hp
def zSubI:SubD:=((0:Int),(0:Int),(0:Int),(0:Int),(0:Int),[],((0:Int),(0:Int),[],[],()),())
theorem DecodeF_dec (all:List Bool) (a n W:Nat) (h8:all.length % 8=0) (ha:a<=all.length) (n1:1<=n) (n2:n<=65535) (h1:1<=W) (h2:W<=31) (hb:all.length<=281474976710656) :
  (∃ (s:Sb) (l:List Int),SbOK s W l/\l.length=n/\Bat all a (s.bits W l))\/∃ l d e X,e≠0/\LQ.DecodeF ((n:Int),(W:Int)) (a:Int) (pk all)=some ((l,d,e),X):=by
 have d1:decide ((n:Int)<1)=false:=zF (by omega)
 have d2:decide ((n:Int)>65535)=false:=zF (by omega)
 have d3:decide ((W:Int)<1)=false:=zF (by omega)
 have d4:decide ((W:Int)>33)=false:=zF (by omega)
 rcases head_dec all a W n h8 ha hb with ⟨s0,z1,z2,z3,hd,hbt,hhead⟩|⟨d,X,hhead⟩
 rotate_left
 ·right
  refine ⟨[],zSubI,2,(X.1,X.2),by decide,?_⟩
  unfold LQ.DecodeF LQ.DecodeF.t
  dsimp only
  rw [Tr.rB]
  refine (bindT (a:=(false,((a:Int),pk all),(W:Int),0,0,0,0,0,0,0)) (by
   rw [Tr.rR,zc,Tr.rR,d1,zc,Tr.rR,d2,zc,Tr.rR,d3,zc,Tr.rT,d4])).trans ?_
  dsimp only
  rw [Tr.rR,zc,Tr.rB]
  refine (bindT hhead).trans ?_
  rfl
 obtain ⟨k3,low,fix,lpc,ob,ws⟩:=hd
 have hle:=hbt.le
 rw [zL,zG,wsBits_len] at hle
 have hwv:w64 ((W:Int) - (s0.wst:Int))=((W - s0.wst:Nat):Int):=by rw [w64_id (by omega)];omega
 rw [show a+(8+s0.wst)=a+(7+(s0.wst+1)) by omega] at hhead
 rcases body_dec all (a+(7+(s0.wst+1))) (W - s0.wst) n s0.k s0.o s0.wst h8 hle (by omega) (by omega) n1 n2 k3 low fix lpc ob hb with ⟨s,mm,g1,g2,g3,bd,hbb,hbody⟩|⟨l,q,hbody⟩
 rotate_left
 ·right
  refine ⟨[],zSubI,2,(q.1.1,q.1.2),by decide,?_⟩
  unfold LQ.DecodeF LQ.DecodeF.t
  dsimp only
  rw [Tr.rB]
  refine (bindT (a:=(false,((a:Int),pk all),(W:Int),0,0,0,0,0,0,0)) (by
   rw [Tr.rR,zc,Tr.rR,d1,zc,Tr.rR,d2,zc,Tr.rR,d3,zc,Tr.rT,d4])).trans ?_
  dsimp only
  rw [Tr.rR,zc,Tr.rB]
  refine (bindT hhead).trans ?_
  dsimp only
  rw [Bool.not_true,Tr.rR,zc,Tr.rB,hwv]
  refine (bindT hbody).trans ?_
  rfl
 obtain ⟨ml,rg,blow,flat,con,blpc,ri⟩:=bd
 rcases ConG_dec mm (W:Int) (s0.k:Int) (s0.o:Int) (s.pr:Int) (s.sf:Int) (s.m:Int) (s.ro:Int) s0.wst (W - s0.wst) s.cs s.ps s.es (by rw [show s0.wst+(W - s0.wst)=W by omega]) (by omega) (by omega) (by omega) rg (by omega) with hfit|hcon
 rotate_left
 ·right
  refine ⟨[],zSubI,2,(((a+(7+(s0.wst+1))+(bdB s (W - s0.wst) n mm).length:Nat):Int),pk all),by decide,?_⟩
  unfold LQ.DecodeF LQ.DecodeF.t
  dsimp only
  rw [Tr.rB]
  refine (bindT (a:=(false,((a:Int),pk all),(W:Int),0,0,0,0,0,0,0)) (by
   rw [Tr.rR,zc,Tr.rR,d1,zc,Tr.rR,d2,zc,Tr.rR,d3,zc,Tr.rT,d4])).trans ?_
  dsimp only
  rw [Tr.rR,zc,Tr.rB]
  refine (bindT hhead).trans ?_
  dsimp only
  rw [Bool.not_true,Tr.rR,zc,Tr.rB,hwv]
  refine (bindT hbody).trans ?_
  dsimp only
  rw [Tr.rB]
  refine (bindT (a:=(true,(((a+(7+(s0.wst+1))+(bdB s (W - s0.wst) n mm).length:Nat):Int),pk all),(0,0,0,0,0,0,0),(s0.k:Int),(s0.o:Int),(s0.wst:Int),(s.pr:Int),(s.sf:Int),s.cs,(s.m:Int),(s.ro:Int),s.ps,s.es)) (by
   rw [Bool.not_true,Tr.rR,zc,Tr.rB]
   refine (bindT hcon).trans ?_
   rfl)).trans ?_
  rfl
 left
 have hmid:=mids_shift s0.wst mm
 have hll:(mm.map (fun x=>x*((2 ^ s0.wst:Nat):Int))).length=n:=by rw [List.length_map,ml]
 have hp:(0:Int)<((2 ^ s0.wst:Nat):Int):=by have:=Nat.two_pow_pos s0.wst;omega
 refine ⟨s,mm.map (fun x=>x*((2 ^ s0.wst:Nat):Int)),⟨by omega,by omega,h1,by omega,by omega,?_,?_,by omega,blow,flat,?_,fun h=>?_,blpc,by omega,?_,by omega⟩,hll,?_⟩
 ·intro x hx
  obtain ⟨y,_,rfl⟩:=List.mem_map.1 hx
  rw [g3,Int.mul_ediv_cancel y (by omega)]
 ·intro x hx
  obtain ⟨y,hy,rfl⟩:=List.mem_map.1 hx
  exact shift_fits W s0.wst y ws (hfit y hy)
 ·intro h x hx
  obtain ⟨y,hy,rfl⟩:=List.mem_map.1 hx
  rw [con h y hy,getD_lt _ _ (by omega),getD_lt _ _ (by rw [List.length_map];omega),List.getElem_map]
 ·rw [g2];exact fix (by omega)
 ·intro h
  rw [g3,hmid,hll];exact ri h
 ·have htyp:s.typ=s0.typ:=by unfold Sb.typ;rw [g1,g2]
  unfold Sb.bits
  rw [g3,hmid,hll,htyp]
  exact Bat.join hbt (by rw [zL,zG,wsBits_len];exact hbb)
end
section
set_option maxRecDepth 100000
open Go.LM
theorem loop_dec (v:Bool) (nm sc rc wc rt cc irt:Int) (sz md hl ch w:Nat) (i0 i1 i2 i3 i7:Int) (i8:List UInt8) (all:List Bool) (hsz:1<=sz/\sz<=4608) (hmd:md<=3) (hch:1<=ch/\ch<=8) (hww:4<=w/\w<=24) (h8:all.length % 8=0) (hb:all.length<=281474976710656) :
  (∃ (ss:Nat->Sb) (pl:List (List Int)),pl.length=ch/\(∀ j,j<ch->SbOK (ss j) (wideV w md (j:Int)).toNat (pl.getD j [])/\(pl.getD j []).length=sz)/\Bat all 0 (bitsN ss md w pl ch) /\
   loopO (fun (d:(Int×Int×Int×Int×Int×Int×Int×Int×List UInt8)×(Bool×Int×Int×Int×Int×Int×Int)×BegD×(Bool×Int×Int×Int×Int×Int×Int)×(Int×List UInt8)×List (List Int)×List SubD)=>(LQ.fParse.l0 d.1 d.2.1 d.2.2.1 d.2.2.2.1 d.2.2.2.2.1 d.2.2.2.2.2.1 d.2.2.2.2.2.2).run) ((i0,i1,i2,i3,irt,(ch:Int),(w:Int),i7,i8),(false,(0:Int),(0:Int),(0:Int),(0:Int),(0:Int),(0:Int)),(v,nm,(sz:Int),sc,rc,wc,(md:Int),rt,cc,(hl:Int)),(v,nm,(sz:Int),sc,rc,wc,(md:Int)),((0:Int),pk all),[],[])=some (.inl ((i0,i1,i2,i3,irt,(ch:Int),(w:Int),i7,i8),(false,(0:Int),(0:Int),(0:Int),(0:Int),(0:Int),(0:Int)),(v,nm,(sz:Int),sc,rc,wc,(md:Int),rt,cc,(hl:Int)),(v,nm,(sz:Int),sc,rc,wc,(md:Int)),(((bitsN ss md w pl ch).length:Int),pk all),pl,(List.range ch).map fun j=>(ss j).D))) \/
  loopO (fun (d:(Int×Int×Int×Int×Int×Int×Int×Int×List UInt8)×(Bool×Int×Int×Int×Int×Int×Int)×BegD×(Bool×Int×Int×Int×Int×Int×Int)×(Int×List UInt8)×List (List Int)×List SubD)=>(LQ.fParse.l0 d.1 d.2.1 d.2.2.1 d.2.2.2.1 d.2.2.2.2.1 d.2.2.2.2.2.1 d.2.2.2.2.2.2).run) ((i0,i1,i2,i3,irt,(ch:Int),(w:Int),i7,i8),(false,(0:Int),(0:Int),(0:Int),(0:Int),(0:Int),(0:Int)),(v,nm,(sz:Int),sc,rc,wc,(md:Int),rt,cc,(hl:Int)),(v,nm,(sz:Int),sc,rc,wc,(md:Int)),((0:Int),pk all),[],[])=some (.inr ((0:Int),(2:Int),false,(0:Int),(0:Int),(0:Int),(0:Int),(0:Int),(0:Int))):=by
 have key:=loopO_pq (f:=(fun (d:(Int×Int×Int×Int×Int×Int×Int×Int×List UInt8)×(Bool×Int×Int×Int×Int×Int×Int)×BegD×(Bool×Int×Int×Int×Int×Int×Int)×(Int×List UInt8)×List (List Int)×List SubD)=>(LQ.fParse.l0 d.1 d.2.1 d.2.2.1 d.2.2.2.1 d.2.2.2.2.1 d.2.2.2.2.2.1 d.2.2.2.2.2.2).run))
  (fun i d=>i<=ch/\∃ (ss:Nat->Sb) (pl:List (List Int)),pl.length=i/\(∀ j,j<i->SbOK (ss j) (wideV w md (j:Int)).toNat (pl.getD j [])/\(pl.getD j []).length=sz)/\Bat all 0 (bitsN ss md w pl i)/\d=((i0,i1,i2,i3,irt,(ch:Int),(w:Int),i7,i8),(false,(0:Int),(0:Int),(0:Int),(0:Int),(0:Int),(0:Int)),(v,nm,(sz:Int),sc,rc,wc,(md:Int),rt,cc,(hl:Int)),(v,nm,(sz:Int),sc,rc,wc,(md:Int)),(((bitsN ss md w pl i).length:Int),pk all),pl,(List.range i).map fun j=>(ss j).D))
  (fun r=>(∃ (ss:Nat->Sb) (pl:List (List Int)),pl.length=ch/\(∀ j,j<ch->SbOK (ss j) (wideV w md (j:Int)).toNat (pl.getD j [])/\(pl.getD j []).length=sz)/\Bat all 0 (bitsN ss md w pl ch)/\r=.inl ((i0,i1,i2,i3,irt,(ch:Int),(w:Int),i7,i8),(false,(0:Int),(0:Int),(0:Int),(0:Int),(0:Int),(0:Int)),(v,nm,(sz:Int),sc,rc,wc,(md:Int),rt,cc,(hl:Int)),(v,nm,(sz:Int),sc,rc,wc,(md:Int)),(((bitsN ss md w pl ch).length:Int),pk all),pl,(List.range ch).map fun j=>(ss j).D))\/r=.inr ((0:Int),(2:Int),false,(0:Int),(0:Int),(0:Int),(0:Int),(0:Int),(0:Int))) ch (fun i hi d hd=>by
   obtain ⟨_,ss,pl,p1,p2,p3,rfl⟩:=hd
   have hwd:=wide_bd (w:Int) (md:Int) (i:Int) (by omega)
   obtain ⟨W,hW⟩:∃ W:Nat,wideV w md (i:Int)=(W:Int):=⟨(wideV w md (i:Int)).toNat,by omega⟩
   have hfw:=fwide_eq i0 i1 i2 i3 irt (ch:Int) (w:Int) i7 i8 (md:Int) (i:Int) (by omega) (by omega) (by omega)
   rw [hW] at hfw
   have hWt:(wideV w md (i:Int)).toNat=W:=by omega
   have hle:=p3.le
   rw [Nat.zero_add] at hle
   have hrl2:((List.range i).map (fun j=>(ss j).D)).length=i:=by simp
   have hrun:∀ r6,LQ.DecodeF ((sz:Int),(W:Int)) ((bitsN ss md w pl i).length:Int) (pk all)=some r6->(LQ.fParse.l0 (i0,i1,i2,i3,irt,(ch:Int),(w:Int),i7,i8) (false,(0:Int),(0:Int),(0:Int),(0:Int),(0:Int),(0:Int)) (v,nm,(sz:Int),sc,rc,wc,(md:Int),rt,cc,(hl:Int)) (v,nm,(sz:Int),sc,rc,wc,(md:Int)) (((bitsN ss md w pl i).length:Int),pk all) pl ((List.range i).map fun j=>(ss j).D)).run=if r6.1.2.2=0 then some (.inl ((i0,i1,i2,i3,irt,(ch:Int),(w:Int),i7,i8),(false,(0:Int),(0:Int),(0:Int),(0:Int),(0:Int),(0:Int)),(v,nm,(sz:Int),sc,rc,wc,(md:Int),rt,cc,(hl:Int)),(v,nm,(sz:Int),sc,rc,wc,(md:Int)),(r6.2.1,r6.2.2),pl++[r6.1.1],((List.range i).map fun j=>(ss j).D)++[r6.1.2.1])) else some (.inr (.inr ((0:Int),(2:Int),false,(0:Int),(0:Int),(0:Int),(0:Int),(0:Int),(0:Int)))):=fun r6 h6=>by
    unfold LQ.fParse.l0
    rw [Tr.rR]
    rw [show (Int.ofNat pl.length == (ch:Int))=false from by rw [p1,beq_eq_false_iff_ne];simp only [zN];omega,zc,Tr.rB]
    rw [show Int.ofNat pl.length=(i:Int) from by rw [p1];rfl]
    refine (bindT hfw).trans ?_
    rw [Tr.rN _ trivial,Tr.rB]
    refine (bindT h6).trans ?_
    rw [Tr.rR]
    by_cases h:r6.1.2.2=0
    ·rw [if_pos h,show (r6.1.2.2 != 0)=false from by rw [h];rfl,zc,Tr.rN _ (by rw [p1];show (i+1)*24<=_;omega),Tr.rN _ (by rw [hrl2];show (i+1)*128<=_;omega),Tr.rT]
     rfl
    ·have hbn:(r6.1.2.2 != 0)=true:=bne_iff_ne.2 h
     rw [if_neg h,hbn,zC,Tr.rT]
   rcases DecodeF_dec all (bitsN ss md w pl i).length sz W h8 hle hsz.1 (by omega) (by omega) (by omega) hb with ⟨s,l,q1,q2,q3⟩|⟨l,d,e,X,e0,q3⟩
   ·left
    have hD:=DecodeF_at all (bitsN ss md w pl i).length W s l q1 hb q3
    rw [q2] at hD
    obtain ⟨S2,hlt,hSi⟩:∃ f:Nat->Sb,(∀ j,j<i->f j=ss j)/\f i=s:=⟨fun j=>if j=i then s else ss j,fun j hj=>if_neg (by omega),if_pos rfl⟩
    have hg:∀ j,j<i->(pl++[l]).getD j []=pl.getD j []:=fun j hj=>getD_app pl l [] j (by omega)
    have hgi:(pl++[l]).getD i []=l:=by rw [←p1];exact getD_new pl l []
    have hbN:bitsN S2 md w (pl++[l]) i=bitsN ss md w pl i:=by
     unfold bitsN
     exact flat_range_congr _ _ i fun j hj=>by
      rw [hlt j hj,hg j hj]
    have hbS:bitsN S2 md w (pl++[l]) (i+1)=bitsN ss md w pl i++s.bits W l:=by
     rw [bitsN_succ,hbN,hgi,hWt,hSi]
    have hmp:(List.range (i+1)).map (fun j=>(S2 j).D)=(List.range i).map (fun j=>(ss j).D)++[s.D]:=by
     rw [List.range_succ,List.map_append]
     congr 1
     ·apply List.map_congr_left
      intro j hj
      rw [List.mem_range] at hj
      rw [hlt j hj]
     ·simp [hSi]
    refine ⟨_,(hrun _ hD).trans (if_pos rfl),by omega,S2,pl++[l],by simp [p1],?_,?_,?_⟩
    ·intro j hj
     by_cases e:j=i
     ·subst e
      rw [hgi,hWt,hSi]
      exact ⟨q1,q2⟩
     ·rw [hlt j (by omega),hg j (by omega)]
      exact p2 j (by omega)
    ·rw [hbS]
     exact Bat.join p3 (by rw [Nat.zero_add];exact q3)
    ·rw [hbS,zL,hmp]
   ·right
    exact ⟨_,(hrun _ q3).trans (if_neg e0),.inr rfl⟩) (fun d hd=>by
   obtain ⟨_,ss,pl,p1,p2,p3,rfl⟩:=hd
   refine ⟨_,?_,.inl ⟨ss,pl,p1,p2,p3,rfl⟩⟩
   show (LQ.fParse.l0 (i0,i1,i2,i3,irt,(ch:Int),(w:Int),i7,i8) (false,(0:Int),(0:Int),(0:Int),(0:Int),(0:Int),(0:Int)) (v,nm,(sz:Int),sc,rc,wc,(md:Int),rt,cc,(hl:Int)) (v,nm,(sz:Int),sc,rc,wc,(md:Int)) (((bitsN ss md w pl ch).length:Int),pk all) pl ((List.range ch).map fun j=>(ss j).D)).run=_
   unfold LQ.fParse.l0
   rw [Tr.rR]
   rw [show (Int.ofNat pl.length == (ch:Int))=true from by rw [p1,beq_iff_eq];rfl]
   rfl) ((i0,i1,i2,i3,irt,(ch:Int),(w:Int),i7,i8),(false,(0:Int),(0:Int),(0:Int),(0:Int),(0:Int),(0:Int)),(v,nm,(sz:Int),sc,rc,wc,(md:Int),rt,cc,(hl:Int)),(v,nm,(sz:Int),sc,rc,wc,(md:Int)),((0:Int),pk all),[],[]) ⟨Nat.zero_le _,fun _=>⟨0,0,0,0,0,0,0,[],[],[]⟩,[],rfl,(fun j hj=>by omega),Bat.nil (Nat.zero_le _),rfl⟩
 obtain ⟨r,r1,r2⟩:=key
 rcases r2 with ⟨ss,pl,p1,p2,p3,rfl⟩|rfl
 ·exact .inl ⟨ss,pl,p1,p2,p3,r1⟩
 ·exact .inr r1
end
section
set_option maxRecDepth 100000
open Go.LM
theorem bitsOf_zero (n:Nat):bitsOf 0 n=List.replicate n false:=by
 unfold bitsOf
 refine List.eq_replicate_iff.2 ⟨by simp,fun b hb=>?_⟩
 obtain ⟨k,_,rfl⟩:=List.mem_map.1 hb
 rw [Nat.zero_div];rfl
theorem Align_dec (all:List Bool) (p:Nat) (h8:all.length % 8=0) (hp:p<=all.length) (hb:all.length<=281474976710656) :
  p+padN p<=all.length/\((Bat all p (List.replicate (padN p) false)/\LQ.AlignR (p:Int) (pk all)=some ((true,0),((p+padN p:Nat):Int),pk all))\/LQ.AlignR (p:Int) (pk all)=some ((false,0),((p+padN p:Nat):Int),pk all)):=by
 have hle:p+padN p<=all.length:=by unfold padN;omega
 refine ⟨hle,?_⟩
 have h1:(p:Int).tmod 8=((p % 8:Nat):Int):=by rw [Int.tmod_eq_emod_of_nonneg (by omega)];omega
 have h2:w64 (8 - ((p % 8:Nat):Int))=((8 - p % 8:Nat):Int):=by rw [w64_id (by omega)];omega
 have h3:((8 - p % 8:Nat):Int).tmod 8=((padN p:Nat):Int):=by
  rw [Int.tmod_eq_emod_of_nonneg (by omega)];unfold padN;omega
 obtain ⟨mid,m1,m2⟩:=Bat.seg hle
 have hg:=Get_eq all mid p (padN p) m2 m1 (by have:=padN_lt p;omega) hb
 have hrun:LQ.AlignR (p:Int) (pk all)=some ((((valB mid:Nat):Int) == 0,0),((p+padN p:Nat):Int),pk all):=by
  unfold LQ.AlignR LQ.AlignR.t
  rw [Tr.rR,zc,Tr.rB]
  refine (bindT (a:=((p:Int),(p:Int),pk all)) rfl).trans ?_
  rw [Tr.rB,h1,h2,h3]
  refine (bindT hg).trans ?_
  rfl
 by_cases h0:valB mid=0
 ·left
  have hm:=bitsOf_valB mid
  rw [h0,m1,bitsOf_zero] at hm
  refine ⟨by rw [hm];exact m2,?_⟩
  rw [hrun,h0];rfl
 ·right
  rw [hrun,show (((valB mid:Nat):Int) == 0)=false from beq_eq_false_iff_ne.2 (by omega)]
def unP (md:Nat) (pl:List (List Int)):List (List Int):=if md=0 then pl else
 [(List.range (pl.getD 0 []).length).map (fun i=>(un2 md ((pl.getD 0 []).getD i 0) ((pl.getD 1 []).getD i 0)).1),(List.range (pl.getD 0 []).length).map (fun i=>(un2 md ((pl.getD 0 []).getD i 0) ((pl.getD 1 []).getD i 0)).2)]
theorem fits25 (W:Nat) (hW:1<=W/\W<=25) (x:Int) (h:fitsW W x):-16777216<=x/\x<16777216:=by
 unfold fitsW at h
 have h2:2 ^ (W - 1)<=2 ^ 24:=Nat.pow_le_pow_right (by decide) (by omega)
 have h3:(2:Nat) ^ 24=16777216:=by decide
 rw [h3] at h2
 generalize 2 ^ (W - 1)=q at h h2
 omega
theorem un2_bd (md x y:Int) (hx:-16777216<=x/\x<16777216) (hy:-16777216<=y/\y<16777216):inR (un2 md x y).1/\inR (un2 md x y).2:=by
 unfold un2 inR
 repeat' split
 all_goals (simp only;omega)
theorem unP_ok (md sz ch:Nat) (pl:List (List Int)) (hsz:sz<=4608) (hl:pl.length=ch) (h2:md=0\/ch=2) (h:∀ l∈pl,l.length=sz/\∀ x∈l,-16777216<=x/\x<16777216):(unP md pl).length=ch/\∀ l∈unP md pl,(∀ x∈l,inR x)/\l.length<=1048576:=by
 unfold unP
 by_cases h0:md=0
 ·rw [if_pos h0]
  refine ⟨hl,fun l hl'=>⟨fun x hx=>?_,?_⟩⟩
  ·have:=(h l hl').2 x hx;unfold inR;omega
  ·have:=(h l hl').1;omega
 ·rw [if_neg h0]
  have hc:ch=2:=by omega
  subst hc
  have m0:pl.getD 0 []∈pl:=by rw [getD_lt _ _ (by omega)];exact List.getElem_mem _
  have m1:pl.getD 1 []∈pl:=by rw [getD_lt _ _ (by omega)];exact List.getElem_mem _
  have l0:=(h _ m0).1
  have l1:=(h _ m1).1
  have hx:∀ i,i<sz->-16777216<=(pl.getD 0 []).getD i 0/\(pl.getD 0 []).getD i 0<16777216:=fun i hi=>mem_getD.2 (h _ m0).2 i (by omega)
  have hy:∀ i,i<sz->-16777216<=(pl.getD 1 []).getD i 0/\(pl.getD 1 []).getD i 0<16777216:=fun i hi=>mem_getD.2 (h _ m1).2 i (by omega)
  refine ⟨rfl,fun l hl'=>?_⟩
  rw [l0] at hl'
  rcases List.mem_cons.1 hl' with rfl|hl'
  ·refine ⟨fun x hx'=>?_,by simp;omega⟩
   obtain ⟨i,hi,rfl⟩:=List.mem_map.1 hx'
   rw [List.mem_range] at hi
   exact (un2_bd md _ _ (hx i hi) (hy i hi)).1
  ·rcases List.mem_cons.1 hl' with rfl|hl'
   ·refine ⟨fun x hx'=>?_,by simp;omega⟩
    obtain ⟨i,hi,rfl⟩:=List.mem_map.1 hx'
    rw [List.mem_range] at hi
    exact (un2_bd md _ _ (hx i hi) (hy i hi)).2
   ·cases hl'
structure PrOK (s:List UInt8) (irt:Int) (sz md hl ch w:Nat) (ss:Nat->Sb) (pl:List (List Int)) (en:Nat):Prop where
 pl1:pl.length=ch
 ok:∀ j,j<ch->SbOK (ss j) (wideV w md (j:Int)).toNat (pl.getD j [])/\(pl.getD j []).length=sz
 bits:Bat (tb (s.drop hl)) 0 (bitsN ss md w pl ch++List.replicate (padN (bitsN ss md w pl ch).length) false)
 en1:en=hl+((bitsN ss md w pl ch).length+7) / 8
 en2:en+2<=s.length
 crc:beV (seg s en 2)=c16 (s.take en)
theorem parse_tail (s:List UInt8) (v:Bool) (nm sc rc wc rt cc irt:Int) (sz md hl ch w:Nat) (i0 i1 i2 i3 i7:Int) (i8:List UInt8) (hs:s.length<=4194304) (hR:LQ.readN s=some ((v,nm,(sz:Int),sc,rc,wc,0,rt,cc,(hl:Int)),true)) (hst:LQ.stream (i0,i1,i2,i3,irt,(ch:Int),(w:Int),i7,i8,())=some true) (hLN:LQ.lookN (i0,i1,i2,i3,irt,(ch:Int),(w:Int),i7,i8,()) v nm (sz:Int) sc rc wc 0 rt cc (hl:Int)=some (0,(v,nm,(sz:Int),sc,rc,wc,(md:Int),rt,cc,(hl:Int)))) (hhl:hl<=s.length)
  (hsz:1<=sz/\sz<=4608) (hmd:md<=3) (hch:1<=ch/\ch<=8) (hww:4<=w/\w<=24) (h2:md=0\/ch=2) :
  (∃ (ss:Nat->Sb) (pl:List (List Int)) (en:Nat),PrOK s irt sz md hl ch w ss pl en/\LQ.fBlock (i0,i1,i2,i3,irt,(ch:Int),(w:Int),i7,i8,()) (sz:Int) (unP md pl)=some true/\LQ.fParse s (i0,i1,i2,i3,irt,(ch:Int),(w:Int),i7,i8,())=some (unP md pl,(v,nm,(sz:Int),sc,rc,wc,(md:Int),(List.range ch).map (fun j=>(ss j).D),()),((en+2:Nat):Int),0)) \/
  ∃ e,e≠0/\LQ.fParse s (i0,i1,i2,i3,irt,(ch:Int),(w:Int),i7,i8,())=some ([],(false,(0:Int),(0:Int),(0:Int),(0:Int),(0:Int),(0:Int),[],()),(0:Int),e):=by
 generalize hall:tb (s.drop hl)=all
 have hpk:pk all=s.drop hl:=by rw [←hall];exact pk_tb _
 have halll:all.length=8*(s.length - hl):=by rw [←hall,tb_len,List.length_drop]
 have h8:all.length % 8=0:=by omega
 have hb:all.length<=281474976710656:=by omega
 have hrest:List.take (Int.ofNat s.length - (hl:Int)).toNat (List.drop ((hl:Nat):Int).toNat s)=pk all:=by
  rw [Int.toNat_natCast,show (Int.ofNat s.length - (hl:Int)).toNat=(s.drop hl).length from by rw [List.length_drop];simp only [zN];omega,List.take_length,hpk]
 rcases loop_dec v nm sc rc wc rt cc irt sz md hl ch w i0 i1 i2 i3 i7 i8 all hsz hmd hch hww h8 hb with ⟨ss,pl,p1,p2,p3,hloop⟩|hloop
 rotate_left
 ·right
  refine ⟨2,by decide,?_⟩
  unfold LQ.fParse LQ.fParse.t
  rw [Tr.rB]
  refine (bindT hR).trans ?_
  rw [Tr.rB]
  refine (bindT (a:=(false,(i0,i1,i2,i3,irt,(ch:Int),(w:Int),i7,i8),(false,(0:Int),(0:Int),(0:Int),(0:Int),(0:Int),(0:Int)),v,nm,(sz:Int),sc,rc,wc,(0:Int),rt,cc,(hl:Int))) (by
   rw [Tr.rR,Bool.not_true,zc,Tr.rB]
   refine (bindT hst).trans ?_
   rfl)).trans ?_
  rw [Tr.rR,zc,Tr.rB]
  refine (bindT hLN).trans ?_
  rw [Tr.rR,show ((0:Int) != 0)=false from rfl,zc]
  rw [Tr.rN _ (by show (0:Int)<=(hl:Int)/\(hl:Int)<=Int.ofNat s.length/\Int.ofNat s.length<=Int.ofNat s.length;simp only [zN];omega),Tr.rB]
  refine (bindT (a:=((0:Int),pk all)) (by
   show LQ.rOf (List.take (Int.ofNat s.length - (hl:Int)).toNat (List.drop ((hl:Nat):Int).toNat s))=_
   rw [hrest];rfl)).trans ?_
  rw [Tr.rB]
  refine (bindT hloop).trans ?_
  rfl
 generalize hbi:bitsN ss md w pl ch=bi at *
 have hle:=p3.le
 rw [Nat.zero_add] at hle
 have hval:∀ l∈pl,l.length=sz/\∀ x∈l,-16777216<=x/\x<16777216:=fun l hl'=>by
  obtain ⟨j,hj,rfl⟩:=List.getElem_of_mem hl'
  obtain ⟨a,b⟩:=p2 j (by omega)
  rw [getD_lt _ _ hj] at a b
  have hwd:=wide_bd (w:Int) (md:Int) (j:Int) (by omega)
  exact ⟨b,fun x hx=>fits25 _ (by omega) x (a.ft x hx)⟩
 obtain ⟨u1,u2⟩:=unP_ok md sz ch pl (by omega) p1 h2 hval
 obtain ⟨a1,a2⟩:=Align_dec all bi.length h8 hle hb
 have hdiv:(bi.length+padN bi.length) / 8=(bi.length+7) / 8:=by unfold padN;omega
 have hdv:w64 (((bi.length+padN bi.length:Nat):Int).tdiv 8)=(((bi.length+7) / 8:Nat):Int):=by
  have:((bi.length+padN bi.length:Nat):Int).tdiv 8=(((bi.length+padN bi.length) / 8:Nat):Int):=by
   rw [Int.tdiv_eq_ediv_of_nonneg (by omega)];omega
  rw [this,hdiv,w64_id (by omega)]
 generalize hen:hl+(bi.length+7) / 8=en
 have hend:w64 (((hl:Nat):Int)+(((bi.length+7) / 8:Nat):Int))=((en:Nat):Int):=by rw [w64_id (by omega)];omega
 have hend2:w64 (((en:Nat):Int)+2)=((en+2:Nat):Int):=by rw [w64_id (by omega)];omega
 have henl:en<=s.length:=by
  have:(bi.length+padN bi.length) / 8<=all.length / 8:=Nat.div_le_div_right a1
  omega
 have hfin:∀ (z c:Bool),LQ.AlignR (bi.length:Int) (pk all)=some ((z,0),((bi.length+padN bi.length:Nat):Int),pk all) ->
   (Tr.br (!z) (Tr.ret (true,(false,(0:Int),(0:Int),(0:Int),(0:Int),(0:Int),(0:Int)),(v,nm,(sz:Int),sc,rc,wc,(md:Int)),unP md pl,(List.range ch).map (fun j=>(ss j).D))) (Tr.bind Bool (LQ.fBlock (i0,i1,i2,i3,irt,(ch:Int),(w:Int),i7,i8,()) (sz:Int) (unP md pl)) false fun r15=>Tr.need True (Tr.br (!r15) (Tr.ret (true,(false,(0:Int),(0:Int),(0:Int),(0:Int),(0:Int),(0:Int)),(v,nm,(sz:Int),sc,rc,wc,(md:Int)),unP md pl,(List.range ch).map (fun j=>(ss j).D))) (Tr.br (decide (Int.ofNat s.length<((en+2:Nat):Int))) (Tr.ret (true,(false,(0:Int),(0:Int),(0:Int),(0:Int),(0:Int),(0:Int)),(v,nm,(sz:Int),sc,rc,wc,(md:Int)),unP md pl,(List.range ch).map (fun j=>(ss j).D))) (Tr.need ((0:Int)<=(en:Int)/\(en:Int)<=((en+2:Nat):Int)/\((en+2:Nat):Int)<=Int.ofNat s.length) (Tr.bind Int (LQ.bFromBe (List.take (((en+2:Nat):Int) - (en:Int)).toNat (List.drop (en:Int).toNat s))) 0 fun r16=>Tr.need True (Tr.need ((0:Int)<=0/\0<=(en:Int)/\(en:Int)<=Int.ofNat s.length) (Tr.bind Int (LQ.Crc16 (List.take ((en:Int) - 0).toNat (List.drop 0 s))) 0 fun r17=>Tr.need True (Tr.ret (r16 != r17,(false,(0:Int),(0:Int),(0:Int),(0:Int),(0:Int),(0:Int)),(v,nm,(sz:Int),sc,rc,wc,(md:Int)),unP md pl,(List.range ch).map (fun j=>(ss j).D))))))))))).run=some (c,(false,(0:Int),(0:Int),(0:Int),(0:Int),(0:Int),(0:Int)),(v,nm,(sz:Int),sc,rc,wc,(md:Int)),unP md pl,(List.range ch).map (fun j=>(ss j).D)) ->
   LQ.fParse s (i0,i1,i2,i3,irt,(ch:Int),(w:Int),i7,i8,())=(bif c then some ([],(false,(0:Int),(0:Int),(0:Int),(0:Int),(0:Int),(0:Int),[],()),(0:Int),2) else some (unP md pl,(v,nm,(sz:Int),sc,rc,wc,(md:Int),(List.range ch).map (fun j=>(ss j).D),()),((en+2:Nat):Int),0)):=fun z c hal hrun=>by
  unfold LQ.fParse LQ.fParse.t
  rw [Tr.rB]
  refine (bindT hR).trans ?_
  rw [Tr.rB]
  refine (bindT (a:=(false,(i0,i1,i2,i3,irt,(ch:Int),(w:Int),i7,i8),(false,(0:Int),(0:Int),(0:Int),(0:Int),(0:Int),(0:Int)),v,nm,(sz:Int),sc,rc,wc,(0:Int),rt,cc,(hl:Int))) (by
   rw [Tr.rR,Bool.not_true,zc,Tr.rB]
   refine (bindT hst).trans ?_
   rfl)).trans ?_
  rw [Tr.rR,zc,Tr.rB]
  refine (bindT hLN).trans ?_
  rw [Tr.rR,show ((0:Int) != 0)=false from rfl,zc]
  rw [Tr.rN _ (by show (0:Int)<=(hl:Int)/\(hl:Int)<=Int.ofNat s.length/\Int.ofNat s.length<=Int.ofNat s.length;simp only [zN];omega),Tr.rB]
  refine (bindT (a:=((0:Int),pk all)) (by
   show LQ.rOf (List.take (Int.ofNat s.length - (hl:Int)).toNat (List.drop ((hl:Nat):Int).toNat s))=_
   rw [hrest];rfl)).trans ?_
  rw [Tr.rB]
  refine (bindT hloop).trans ?_
  rw [Tr.run_csl,Tr.rB]
  refine (bindT (a:=.inr ((i0,i1,i2,i3,irt,(ch:Int),(w:Int),i7,i8),(false,(0:Int),(0:Int),(0:Int),(0:Int),(0:Int),(0:Int)),(v,nm,(sz:Int),sc,rc,wc,(md:Int),rt,cc,(hl:Int)),(v,nm,(sz:Int),sc,rc,wc,(md:Int)),((bi.length:Int),pk all),unP md pl,(List.range ch).map (fun j=>(ss j).D))) (by
   rw [Tr.rR]
   show (bif ((md:Int) != 0) then _ else _)=_
   by_cases h0:md=0
   ·rw [show ((md:Int) != 0)=false from by rw [h0];rfl,zc,Tr.rT]
    have:unP md pl=pl:=by unfold unP;rw [if_pos h0]
    rw [this]
   ·have hc2:ch=2:=by omega
    have m0:pl.getD 0 []∈pl:=by rw [getD_lt _ _ (by omega)];exact List.getElem_mem _
    have m1:pl.getD 1 []∈pl:=by rw [getD_lt _ _ (by omega)];exact List.getElem_mem _
    have hU:=Unstereo_eq (md:Int) (pl.getD 0 []) (pl.getD 1 []) (by omega) (by rw [(hval _ m0).1,(hval _ m1).1]) (by rw [(hval _ m0).1];omega) (fun x hx=>by have:=(hval _ m0).2 x hx;omega) (fun x hx=>by have:=(hval _ m1).2 x hx;omega)
    have n0:(0:Int)<=(0:Int)/\(0:Int)<Int.ofNat pl.length:=by rw [p1];simp only [zN];omega
    have n1:(0:Int)<=(1:Int)/\(1:Int)<Int.ofNat pl.length:=by rw [p1];simp only [zN];omega
    rw [show ((md:Int) != 0)=true from by rw [bne_iff_ne];omega,zC,Tr.rN _ n0,Tr.rN _ n1,Tr.rB]
    refine (bindT hU).trans ?_
    have:unP md pl=[(List.range (pl.getD 0 []).length).map (fun i=>(un2 md ((pl.getD 0 []).getD i 0) ((pl.getD 1 []).getD i 0)).1),(List.range (pl.getD 0 []).length).map (fun i=>(un2 md ((pl.getD 0 []).getD i 0) ((pl.getD 1 []).getD i 0)).2)]:=by unfold unP;rw [if_neg h0]
    rw [this]
    rfl)).trans ?_
  rw [Tr.run_csr,Tr.rB]
  refine (bindT hal).trans ?_
  rw [Tr.rB]
  refine (bindT (a:=(((bi.length+padN bi.length:Nat):Int),((bi.length+padN bi.length:Nat):Int),pk all)) (by
   show LQ.AtR _ _=_
   unfold LQ.AtR LQ.AtR.t
   rw [Tr.rR,zc,Tr.rB]
   refine (bindT (a:=(((bi.length+padN bi.length:Nat):Int),((bi.length+padN bi.length:Nat):Int),pk all)) rfl).trans ?_
   rw [Tr.rN _ ⟨rfl,rfl,trivial⟩];rfl)).trans ?_
  rw [Tr.rN _ ⟨rfl,rfl,trivial⟩,Tr.rB]
  simp only [hdv,hend,hend2]
  refine (bindT hrun).trans ?_
  rw [Tr.rR]
  cases c<;>rfl
 rcases a2 with ⟨z1,hal⟩|hal
 rotate_left
 ·right
  exact ⟨2,by decide,hfin false true hal rfl⟩
 rcases fBlock_dec (unP md pl) (sz:Int) i0 i1 i2 i3 irt (ch:Int) i7 i8 w (by omega) u2 (by omega) with ⟨_,hK⟩|⟨_,hK⟩
 rotate_left
 ·right
  refine ⟨2,by decide,hfin true true hal ?_⟩
  rw [Bool.not_true,Tr.rR,zc,Tr.rB]
  refine (bindT hK).trans ?_
  rw [Tr.rN _ trivial];rfl
 by_cases hshort:s.length<en+2
 ·right
  refine ⟨2,by decide,hfin true true hal ?_⟩
  rw [Bool.not_true,Tr.rR,zc,Tr.rB]
  refine (bindT hK).trans ?_
  rw [Tr.rN _ trivial,Bool.not_true,Tr.rR,zc,Tr.rR,show decide (Int.ofNat s.length<((en+2:Nat):Int))=true from zT (by simp only [zN];omega)]
  rfl
 have hsl2:=seg_len s en 2 (by omega)
 have hfb:=bFromBe_eq (seg s en 2) (by rw [hsl2];decide)
 have hcr:=Crc16_eq (s.take en) (by rw [List.length_take];omega)
 have hq:∀ c:Bool,c=(((beV (seg s en 2):Nat):Int) != ((c16 (s.take en):Nat):Int))->LQ.fParse s (i0,i1,i2,i3,irt,(ch:Int),(w:Int),i7,i8,())=(bif c then some ([],(false,(0:Int),(0:Int),(0:Int),(0:Int),(0:Int),(0:Int),[],()),(0:Int),2) else some (unP md pl,(v,nm,(sz:Int),sc,rc,wc,(md:Int),(List.range ch).map (fun j=>(ss j).D),()),((en+2:Nat):Int),0)):=fun c hc=>by
  refine hfin true c hal ?_
  rw [Bool.not_true,Tr.rR,zc,Tr.rB]
  refine (bindT hK).trans ?_
  rw [Tr.rN _ trivial,Bool.not_true,Tr.rR,zc,Tr.rR,show decide (Int.ofNat s.length<((en+2:Nat):Int))=false from zF (by simp only [zN];omega),zc]
  rw [Tr.rN _ (by simp only [zN];omega),Tr.rB]
  have e2:(((en+2:Nat):Int) - ((en:Nat):Int)).toNat=2:=by omega
  rw [e2,Int.toNat_natCast]
  refine (bindT (show LQ.bFromBe (List.take 2 (List.drop en s))=_ from hfb)).trans ?_
  rw [Tr.rN _ trivial,Tr.rN _ (by simp only [zN];omega),Tr.rB]
  have e3:(((en:Nat):Int) - 0).toNat=en:=by omega
  rw [e3,List.drop_zero]
  refine (bindT hcr).trans ?_
  rw [Tr.rN _ trivial,Tr.rT,hc]
 by_cases hcrc:beV (seg s en 2)=c16 (s.take en)
 ·left
  refine ⟨ss,pl,en,⟨p1,p2,?_,by rw [hbi];exact hen.symm,by omega,hcrc⟩,hK,hq false ?_⟩
  ·rw [hall,hbi]
   exact Bat.join p3 (by rw [Nat.zero_add];exact z1)
  ·rw [hcrc];simp
 ·right
  refine ⟨2,by decide,hq true ?_⟩
  exact (bne_iff_ne.2 (by omega)).symm
end
section
set_option maxRecDepth 100000
open Go.LM
theorem readV_shape (s:List UInt8) (h:(readV s).2=true):∃ (v:Bool) (nm sz:Int) (sc rc wc cc:Nat) (rt:Int) (hl:Nat),readV s=((v,nm,sz,(sc:Int),(rc:Int),(wc:Int),0,rt,(cc:Int),(hl:Int)),true)/\sc<=15/\rc<=15/\wc<=7/\cc<=15/\hl<=s.length/\(1<=sz\/sz=sizeN sc):=by
 unfold readV at h ⊢
 by_cases h4:head4B s=true
 ·rw [if_pos h4] at h;cases h
 rw [if_neg h4] at h ⊢
 have hb2:=(s.getD 2 0).toNat_lt
 have hb3:=(s.getD 3 0).toNat_lt
 generalize decide ((s.getD 1 0).toNat % 2=1)=v at h ⊢
 generalize hsc:(s.getD 2 0).toNat / 16=sc at h ⊢
 generalize hrc:(s.getD 2 0).toNat % 16=rc at h ⊢
 generalize hwc:(s.getD 3 0).toNat / 2 % 8=wc at h ⊢
 generalize hcc:(s.getD 3 0).toNat / 16=cc at h ⊢
 generalize uncV (s.drop 4)=u at h ⊢
 simp only at h ⊢
 by_cases hbad:u.2.2≠0\/(v=false/\u.1>=2147483648)
 ·rw [if_pos hbad] at h;cases h
 rw [if_neg hbad] at h ⊢
 cases hr:rdSz s sc (4+u.2.1.toNat) with
 |none=>rw [hr] at h;cases h
 |some q=>
  obtain ⟨sz,a1⟩:=q
  rw [hr] at h
  simp only at h ⊢
  have hsz:1<=sz\/sz=sizeN sc:=by
   unfold rdSz at hr
   split at hr
   ·split at hr
    ·cases hr;left;omega
    ·cases hr
   ·cases hr;exact .inr rfl
  cases hq:rdRt s rc a1 with
  |none=>rw [hq] at h;cases h
  |some q2=>
   obtain ⟨rt,a2⟩:=q2
   rw [hq] at h
   simp only at h ⊢
   by_cases hl:a2+1<=s.length
   ·rw [if_pos hl] at h ⊢
    simp only at h
    rw [h]
    exact ⟨v,u.1,sz,sc,rc,wc,cc,rt,a2+1,rfl,by omega,by omega,by omega,by omega,hl,hsz⟩
   ·rw [if_neg hl] at h;cases h
theorem sizeN_pos (c:Nat) (h:c<=15) (h0:c≠0) (h6:sizeN (c:Int)≠0):1<=sizeN (c:Int):=by
 have hh:∀ c:Fin 16,sizeN (c.1:Int)≠0->1<=sizeN (c.1:Int):=by decide
 exact hh ⟨c,by omega⟩ h6
theorem parse_dec (s:List UInt8) (i0 i1 i2 i3 irt ich iw i7:Int) (i8:List UInt8) (hs:s.length<=4194304) :
  (∃ (v:Bool) (nm:Int) (sz sc rc wc cc:Nat) (rt:Int) (md hl ch w:Nat) (ss:Nat->Sb) (pl:List (List Int)) (en:Nat),ich=(ch:Int)/\iw=(w:Int)/\readV s=((v,nm,(sz:Int),(sc:Int),(rc:Int),(wc:Int),0,rt,(cc:Int),(hl:Int)),true)/\streamOk irt ich iw=true/\lookV (sz:Int) (sc:Int) (rc:Int) (wc:Int) rt (cc:Int) irt ich iw=(0,(md:Int))/\PrOK s irt sz md hl ch w ss pl en/\LQ.fBlock (i0,i1,i2,i3,irt,ich,iw,i7,i8,()) (sz:Int) (unP md pl)=some true/\LQ.fParse s (i0,i1,i2,i3,irt,ich,iw,i7,i8,())=some (unP md pl,(v,nm,(sz:Int),(sc:Int),(rc:Int),(wc:Int),(md:Int),(List.range ch).map (fun j=>(ss j).D),()),((en+2:Nat):Int),0)) \/
  ∃ e,e≠0/\LQ.fParse s (i0,i1,i2,i3,irt,ich,iw,i7,i8,())=some ([],(false,(0:Int),(0:Int),(0:Int),(0:Int),(0:Int),(0:Int),[],()),(0:Int),e):=by
 have hR:=readN_eq s (by omega)
 by_cases hok:(readV s).2=true
 rotate_left
 ·right
  refine ⟨2,by decide,?_⟩
  have hf:(readV s).2=false:=Bool.eq_false_iff.2 hok
  generalize readV s=r at hR hf
  obtain ⟨⟨b0,b1,b2,b3,b4,b5,b6,b7,b8,b9⟩,ok⟩:=r
  simp only at hf
  subst hf
  unfold LQ.fParse LQ.fParse.t
  rw [Tr.rB]
  refine (bindT hR).trans ?_
  rw [Tr.rB]
  refine (bindT (a:=(true,(i0,i1,i2,i3,irt,ich,iw,i7,i8),(false,(0:Int),(0:Int),(0:Int),(0:Int),(0:Int),(0:Int)),b0,b1,b2,b3,b4,b5,b6,b7,b8,b9)) (by
   rw [Tr.rR,Bool.not_false,zC];rfl)).trans ?_
  rw [Tr.rR,zC];rfl
 obtain ⟨v,nm,sz,sc,rc,wc,cc,rt,hl,hV,hsc,hrc,hwc,hcc,hhl,hsz⟩:=readV_shape s hok
 rw [hV] at hR
 have hst:=stream_eq i0 i1 i2 i3 irt ich iw i7 i8
 by_cases hS:streamOk irt ich iw=true
 rotate_left
 ·right
  refine ⟨2,by decide,?_⟩
  have hf:streamOk irt ich iw=false:=Bool.eq_false_iff.2 hS
  rw [hf] at hst
  unfold LQ.fParse LQ.fParse.t
  rw [Tr.rB]
  refine (bindT hR).trans ?_
  rw [Tr.rB]
  refine (bindT (a:=(true,(i0,i1,i2,i3,irt,ich,iw,i7,i8),(false,(0:Int),(0:Int),(0:Int),(0:Int),(0:Int),(0:Int)),v,nm,sz,(sc:Int),(rc:Int),(wc:Int),(0:Int),rt,(cc:Int),(hl:Int))) (by
   rw [Tr.rR,Bool.not_true,zc,Tr.rB]
   refine (bindT hst).trans ?_
   rfl)).trans ?_
  rw [Tr.rR,zC];rfl
 rw [hS] at hst
 have hSd:1<=ich/\ich<=8/\4<=iw/\iw<=24/\0<irt:=of_decide_eq_true hS
 have hLN:=lookN_eq v nm sz (sc:Int) (rc:Int) (wc:Int) rt (cc:Int) (hl:Int) i0 i1 i2 i3 irt ich iw i7 i8 (by omega) (by omega)
 by_cases hL:(lookV sz (sc:Int) (rc:Int) (wc:Int) rt (cc:Int) irt ich iw).1=0
 rotate_left
 ·right
  refine ⟨_,hL,?_⟩
  unfold LQ.fParse LQ.fParse.t
  rw [Tr.rB]
  refine (bindT hR).trans ?_
  rw [Tr.rB]
  refine (bindT (a:=(false,(i0,i1,i2,i3,irt,ich,iw,i7,i8),(false,(0:Int),(0:Int),(0:Int),(0:Int),(0:Int),(0:Int)),v,nm,sz,(sc:Int),(rc:Int),(wc:Int),(0:Int),rt,(cc:Int),(hl:Int))) (by
   rw [Tr.rR,Bool.not_true,zc,Tr.rB]
   refine (bindT hst).trans ?_
   rfl)).trans ?_
  rw [Tr.rR,zc,Tr.rB]
  refine (bindT hLN).trans ?_
  rw [Tr.rR]
  rw [show ((lookV sz (sc:Int) (rc:Int) (wc:Int) rt (cc:Int) irt ich iw).1 != 0)=true from bne_iff_ne.2 hL]
  rfl
 have hlook:∃ md:Nat,lookV sz (sc:Int) (rc:Int) (wc:Int) rt (cc:Int) irt ich iw=(0,(md:Int))/\md<=3/\sz<=4608/\sc≠0/\(md=0\/ich=2):=by
  unfold lookV at hL ⊢
  by_cases a0:(sc:Int)=0
  ·rw [if_pos a0] at hL;exact absurd hL (by decide)
  rw [if_neg a0] at hL ⊢
  by_cases a1:sz>4608
  ·rw [if_pos a1] at hL;exact absurd hL (by decide)
  rw [if_neg a1] at hL ⊢
  by_cases a2:(rc:Int)=15\/((rc:Int)≠0/\rt≠irt)\/(cc:Int)>10
  ·rw [if_pos a2] at hL;exact absurd hL (by decide)
  rw [if_neg a2] at hL ⊢
  by_cases a3:(if (cc:Int)+1>8 then (2:Int) else (cc:Int)+1)≠ich\/((wc:Int)≠0/\widthT (wc:Int)≠iw)
  ·rw [if_pos a3] at hL;exact absurd hL (show ¬ (2:Int)=0 by decide)
  rw [if_neg a3]
  by_cases a4:(cc:Int)+1>8
  ·rw [if_pos a4]
   refine ⟨cc - 7,by congr 1;omega,by omega,by omega,by omega,.inr ?_⟩
   rw [if_pos a4] at a3
   omega
  ·rw [if_neg a4]
   exact ⟨0,rfl,by omega,by omega,by omega,.inl rfl⟩
 obtain ⟨md,hLv,hmd,hsz2,hsc0,hm2⟩:=hlook
 rw [hLv] at hLN
 have hsz1:1<=sz\/sz=0:=by
  rcases hsz with h|h
  ·exact .inl h
  ·by_cases h0:sizeN (sc:Int)=0
   ·right;omega
   ·left
    have:=sizeN_pos sc (by omega) hsc0 h0
    omega
 have hszp:1<=sz:=by
  rcases hsz1 with h|h
  ·exact h
  ·exfalso
   have hh:∀ c:Fin 16,c.1≠0->c.1≠6->c.1≠7->sizeN (c.1:Int)≠0:=by decide
   rcases hsz with h' | h'
   ·omega
   ·by_cases h6:sc=6\/sc=7
    ·
     have hx:∀ (s:List UInt8) (sc a:Nat) (q:Int×Nat),sc=6\/sc=7->rdSz s sc a=some q->1<=q.1:=fun s sc a q h67 hq=>by
      unfold rdSz at hq
      rw [if_pos h67] at hq
      split at hq
      ·cases hq;simp only;omega
      ·cases hq
     have:1<=sz:=by
      have hV':=hV
      unfold readV at hV'
      by_cases h4:head4B s=true
      ·rw [if_pos h4] at hV';cases hV'
      rw [if_neg h4] at hV'
      simp only at hV'
      split at hV'
      ·cases hV'
      ·split at hV'
       ·cases hV'
       ·rename_i sz' a1' hrd
        split at hV'
        ·cases hV'
        ·split at hV'
         ·have e:=congrArg (fun z=>z.1) hV'
          simp only [zP] at e
          obtain ⟨_,_,e1,e2,_⟩:=e
          have e3:(s.getD 2 0).toNat / 16=sc:=by omega
          rw [e3] at hrd
          have:=hx _ _ _ _ h6 hrd
          simp only at this
          omega
         ·cases hV'
     omega
    ·exact hh ⟨sc,by omega⟩ hsc0 (fun c=>h6 (.inl c)) (fun c=>h6 (.inr c)) (by show sizeN (sc:Int)=0;omega)
 obtain ⟨szn,rfl⟩:∃ n:Nat,sz=(n:Int):=⟨sz.toNat,by omega⟩
 obtain ⟨ch,rfl⟩:∃ n:Nat,ich=(n:Int):=⟨ich.toNat,by omega⟩
 obtain ⟨w,rfl⟩:∃ n:Nat,iw=(n:Int):=⟨iw.toNat,by omega⟩
 rcases parse_tail s v nm (sc:Int) (rc:Int) (wc:Int) rt (cc:Int) irt szn md hl ch w i0 i1 i2 i3 i7 i8 hs hR hst hLN hhl (by omega) hmd (by omega) (by omega) (by omega) with ⟨ss,pl,en,h1,h2,h3⟩|h
 ·exact .inl ⟨v,nm,szn,sc,rc,wc,cc,rt,md,hl,ch,w,ss,pl,en,rfl,rfl,hV,hS,hLv,h1,h2,h3⟩
 ·exact .inr h
end
section
set_option maxRecDepth 100000
open Go.LM
def invT:List Nat:=[0,127,255,128,126,1,129,254,252,131,3,124,130,253,125,2,120,7,135,248,6,121,249,134,132,251,123,4,250,133,5,122,240,143,15,112,142,241,113,14,12,115,243,140,114,13,141,242,136,247,119,8,246,137,9,118,116,11,139,244,10,117,245,138,96,31,159,224,30,97,225,158,156,227,99,28,226,157,29,98,24,103,231,152,102,25,153,230,228,155,27,100,154,229,101,26,144,239,111,16,238,145,17,110,108,19,147,236,18,109,237,146,232,151,23,104,150,233,105,22,20,107,235,148,106,21,149,234,192,191,63,64,190,193,65,62,60,67,195,188,66,61,189,194,184,199,71,56,198,185,57,70,68,59,187,196,58,69,197,186,48,79,207,176,78,49,177,206,204,179,51,76,178,205,77,50,72,55,183,200,54,73,201,182,180,203,75,52,202,181,53,74,160,223,95,32,222,161,33,94,92,35,163,220,34,93,221,162,216,167,39,88,166,217,89,38,36,91,219,164,90,37,165,218,80,47,175,208,46,81,209,174,172,211,83,44,210,173,45,82,40,87,215,168,86,41,169,214,212,171,43,84,170,213,85,42]
theorem inv_tab:∀ i:Fin 256,invT.getD (tabN 16 32773 i.1 % 256) 0=i.1:=by decide +kernel
theorem tab_inj (i j:Nat) (hi:i<256) (hj:j<256) (h:tabN 16 32773 i % 256=tabN 16 32773 j % 256):i=j:=by
 have h1:=inv_tab ⟨i,hi⟩
 have h2:=inv_tab ⟨j,hj⟩
 simp only at h1 h2
 rw [h] at h1
 omega
theorem xor_cancel_right {a b c:Nat} (h:a ^^^ c=b ^^^ c):a=b:=by
 have:=congrArg (fun x=>x ^^^ c) h
 simpa [Nat.xor_assoc] using this
theorem xor_cancel_left {a b c:Nat} (h:c ^^^ a=c ^^^ b):a=b:=by
 rw [Nat.xor_comm c a,Nat.xor_comm c b] at h
 exact xor_cancel_right h
theorem crcS_mod (c:Nat) (b:UInt8):crcS 16 32773 c b % 65536=(c*256 % 65536) ^^^ (tabN 16 32773 (crcI 16 c b) % 65536):=by
 unfold crcS
 rw [show (65536:Nat)=2 ^ 16 from rfl,Nat.xor_mod_two_pow]
 congr 1
 omega
theorem low_byte (x t:Nat):(x*256 % 65536 ^^^ t % 65536) % 256=t % 256:=by
 rw [show (256:Nat)=2 ^ 8 from rfl,Nat.xor_mod_two_pow]
 have e1:x*2 ^ 8 % 65536 % 2 ^ 8=0:=by omega
 have e2:t % 65536 % 2 ^ 8=t % 2 ^ 8:=by omega
 rw [e1,e2,Nat.zero_xor]
theorem crcS_idx (c c':Nat) (b b':UInt8) (h:crcS 16 32773 c b % 65536=crcS 16 32773 c' b' % 65536):crcI 16 c b=crcI 16 c' b':=by
 rw [crcS_mod,crcS_mod] at h
 have h2:=congrArg (fun x=>x % 256) h
 simp only [low_byte] at h2
 exact tab_inj _ _ (crcI_lt _ _ _) (crcI_lt _ _ _) h2
theorem crcS_inj (c c':Nat) (b:UInt8) (h:crcS 16 32773 c b % 65536=crcS 16 32773 c' b % 65536):c % 65536=c' % 65536:=by
 have hi:=crcS_idx c c' b b h
 have hx:=hi
 unfold crcI at hx
 have h1:=xor_cancel_right hx
 rw [crcS_mod,crcS_mod,hi] at h
 have h2:=xor_cancel_right h
 have h3:c / 256 % 256=c' / 256 % 256:=h1
 omega
theorem crcS_byte (c:Nat) (b b':UInt8) (h:crcS 16 32773 c b % 65536=crcS 16 32773 c b' % 65536):b=b':=by
 have hi:=crcS_idx c c b b' h
 unfold crcI at hi
 have:=xor_cancel_left hi
 exact UInt8.toNat_inj.1 this
theorem fold_ne:∀ (t:List UInt8) (c c':Nat),t.foldl (crcS 16 32773) c % 65536=t.foldl (crcS 16 32773) c' % 65536->c % 65536=c' % 65536
 | [],c,c',h=>h
 |b::t,c,c',h=>crcS_inj c c' b (fold_ne t _ _ h)
theorem c16_byte (x y:List UInt8) (b b':UInt8) (h:c16 (x++b::y)=c16 (x++b'::y)):b=b':=by
 unfold c16 crcF at h
 rw [List.foldl_append,List.foldl_append,List.foldl_cons,List.foldl_cons] at h
 exact crcS_byte _ b b' (fold_ne y _ _ h)
theorem beV_inj (a b:List UInt8) (hl:a.length=b.length) (h:beV a=beV b):a=b:=by
 have e:∀ t:List UInt8,beV t=leV t.reverse:=fun t=>by
  have:=beV_rev t.reverse
  rwa [List.reverse_reverse] at this
 rw [e,e] at h
 have h1:=leB_leV a.reverse
 have h2:=leB_leV b.reverse
 rw [h,List.length_reverse,hl] at h1
 rw [List.length_reverse] at h2
 rw [h1] at h2
 have h3:=congrArg List.reverse h2
 rw [List.reverse_reverse,List.reverse_reverse] at h3
 first|exact h3|exact h3.symm
theorem flip_ne:∀ b:UInt8,UInt8.ofNat (bitsI BinOp.xor IntKind.u8 (Int.ofNat b.toNat) (1:Int) % (256:Int)).toNat≠b:=by
 have h:∀ i:Fin 256,UInt8.ofNat (bitsI BinOp.xor IntKind.u8 (Int.ofNat (UInt8.ofNat i.1).toNat) (1:Int) % (256:Int)).toNat≠UInt8.ofNat i.1:=by decide +kernel
 intro b
 have:=h ⟨b.toNat,b.toNat_lt⟩
 simpa using this
theorem set_split (l:List UInt8) (p:Nat) (y:UInt8) (h:p<l.length):l.set p y=l.take p++y::l.drop (p+1)/\l=l.take p++l.getD p 0::l.drop (p+1):=by
 constructor
 ·rw [List.set_eq_take_append_cons_drop,if_pos h]
 ·rw [getD_lt _ _ h,←List.drop_eq_getElem_cons h,List.take_append_drop]
theorem crc_flip (t:List UInt8) (en p:Nat) (y:UInt8) (hl:t.length=en+2) (hp:p<en+2) (hy:y≠t.getD p 0) (h1:beV ((t.drop en).take 2)=c16 (t.take en)) (h2:beV (((t.set p y).drop en).take 2)=c16 ((t.set p y).take en)):False:=by
 by_cases hpe:p<en
 ·have e1:((t.set p y).drop en).take 2=(t.drop en).take 2:=by
   rw [List.drop_set_of_lt hpe]
  have e2:(t.set p y).take en=(t.take en).set p y:=List.take_set
  rw [e1,h1,e2] at h2
  have hlen:p<(t.take en).length:=by rw [List.length_take];omega
  obtain ⟨q1,q2⟩:=set_split (t.take en) p y hlen
  have hg:(t.take en).getD p 0=t.getD p 0:=by
   rw [getD_lt _ _ hlen,getD_lt _ _ (by omega),List.getElem_take]
  rw [q1] at h2
  have h3:c16 ((t.take en).take p++(t.take en).getD p 0::(t.take en).drop (p+1))=c16 ((t.take en).take p++y::(t.take en).drop (p+1)):=by
   rw [←q2];exact h2
  exact hy (by rw [←hg];exact (c16_byte _ _ _ _ h3).symm)
 ·have e2:(t.set p y).take en=t.take en:=List.take_set_of_le (by omega)
  rw [e2,←h1] at h2
  have e3:=beV_inj _ _ (by simp) h2
  have hl2:((t.set p y).drop en).length=2:=by rw [List.length_drop,List.length_set];omega
  have hl3:(t.drop en).length=2:=by rw [List.length_drop];omega
  rw [List.take_of_length_le (by omega),List.take_of_length_le (by omega)] at e3
  have e4:((t.set p y).drop en).getD (p - en) 0=(t.drop en).getD (p - en) 0:=by rw [e3]
  rw [List.getD_eq_getElem?_getD,List.getD_eq_getElem?_getD,List.getElem?_drop,List.getElem?_drop,show en+(p - en)=p by omega,List.getElem?_set_self (by omega)] at e4
  rw [←List.getD_eq_getElem?_getD] at e4
  exact hy e4
end
section
set_option maxRecDepth 100000
open Go.LM
theorem lSpoilt_law (s:List UInt8) (i0 i1 i2 i3 irt ich iw i7 at_:Int) (i8:List UInt8) (hs:s.length<=1048576):LQ.lSpoilt s (i0,i1,i2,i3,irt,ich,iw,i7,i8,()) at_=some true:=by
 rcases parse_dec s i0 i1 i2 i3 irt ich iw i7 i8 (by omega) with ⟨v,nm,sz,sc,rc,wc,cc,rt,md,hl,ch,w,ss,pl,en,c1,c2,c3,c4,c5,pr,hK,hP⟩|⟨e,e0,hP⟩
 rotate_left
 ·unfold LQ.lSpoilt LQ.lSpoilt.t
  rw [Tr.rB]
  refine (bindT hP).trans ?_
  rw [Tr.rB]
  refine (bindT (a:=(true,i0,i1,i2,i3,irt,ich,iw,i7,i8)) (by
   rw [Tr.rR]
   show (bif (e != 0) then _ else _)=_
   rw [bne_iff_ne.2 e0];rfl)).trans ?_
  rw [Tr.rR,zC,Tr.rB]
  refine (bindT awake_eq).trans ?_
  rfl
 have hen:=pr.en2
 generalize hn:((en+2:Nat):Int)=n at hP
 have hn1:2<=n:=by omega
 have hn2:n<=(s.length:Int):=by omega
 have t1:at_.tmod n<n:=Int.tmod_lt_of_pos _ (by omega)
 have t2:-n<at_.tmod n:=Int.lt_tmod_of_pos _ (by omega)
 have hw:w64 (at_.tmod n+n)=at_.tmod n+n:=w64_id (by omega)
 have t3:0<=(at_.tmod n+n).tmod n:=Int.tmod_nonneg _ (by omega)
 have t4:(at_.tmod n+n).tmod n<n:=Int.tmod_lt_of_pos _ (by omega)
 generalize hpos:(at_.tmod n+n).tmod n=pos at t3 t4
 have htk:List.take (n - 0).toNat (List.drop 0 s)=s.take (en+2):=by
  rw [List.drop_zero];congr 1;omega
 generalize ht:s.take (en+2)=t at htk
 have htl:t.length=en+2:=by rw [←ht,List.length_take];omega
 generalize hy:UInt8.ofNat (bitsI BinOp.xor IntKind.u8 (Int.ofNat (t.getD pos.toNat (0:UInt8)).toNat) (1:Int) % (256:Int)).toNat=y
 have hyne:y≠t.getD pos.toNat 0:=by rw [←hy];exact flip_ne _
 have hother:∃ r3,LQ.fParse (t.set pos.toNat y) (i0,i1,i2,i3,irt,ich,iw,i7,i8,())=some r3/\(r3.2.2.2≠0\/r3.2.2.1≠n):=by
  rcases parse_dec (t.set pos.toNat y) i0 i1 i2 i3 irt ich iw i7 i8 (by rw [List.length_set];omega) with ⟨v',nm',sz',sc',rc',wc',cc',rt',md',hl',ch',w',ss',pl',en',d1,d2,d3,d4,d5,pr',hK',hP'⟩|⟨e,e0,hP'⟩
  ·refine ⟨_,hP',.inr ?_⟩
   intro heq
   have hee:en'=en:=by
    have:((en'+2:Nat):Int)=n:=heq
    omega
   have c1':=pr'.crc
   rw [hee] at c1'
   have c0:=pr.crc
   refine crc_flip t en pos.toNat y htl (by omega) hyne ?_ c1'
   have e1:(t.drop en).take 2=seg s en 2:=by
    rw [←ht]
    unfold seg
    rw [List.drop_take,List.take_take]
    congr 1
    omega
   have e2:t.take en=s.take en:=by rw [←ht,List.take_take,Nat.min_eq_left (by omega)]
   rw [e1,e2];exact c0
  ·exact ⟨_,hP',.inl e0⟩
 obtain ⟨r3,hP3,h3⟩:=hother
 unfold LQ.lSpoilt LQ.lSpoilt.t
 rw [Tr.rB]
 refine (bindT hP).trans ?_
 rw [Tr.rB]
 refine (bindT (a:=(false,i0,i1,i2,i3,irt,ich,iw,i7,i8)) (by
  rw [Tr.rR]
  show (bif ((0:Int) != 0) then _ else _)=_
  rw [show ((0:Int) != 0)=false from rfl,zc,Tr.rR]
  show (bif decide (n<1) then _ else _)=_
  rw [zF (by omega),zc,Tr.rT]
  show some (decide (n>Int.ofNat s.length),_)=_
  rw [zF (by simp only [zN];omega)])).trans ?_
 rw [Tr.rR,zc]
 rw [Tr.rN _ (by show (0:Int)<=0/\(0:Int)<=n/\n<=Int.ofNat s.length;simp only [zN];omega),Tr.rN _ (by show n≠0;omega),Tr.rN _ (by show n≠0;omega)]
 dsimp only
 rw [hw,hpos,htk,hy]
 rw [Tr.rN _ (by simp only [zN];omega),Tr.rN _ (by simp only [zN];omega),Tr.rB]
 refine (bindT hP3).trans ?_
 rw [Tr.rB]
 refine (bindT (a:=true) (by
  rw [Tr.rR]
  by_cases he:r3.2.2.2=0
  ·have hne:=h3.resolve_left (fun c=>c he)
   rw [show (r3.2.2.2 != 0)=false from by rw [he];rfl,zc,Tr.rR,show (r3.2.2.1 != n)=true from bne_iff_ne.2 hne,zC,Tr.rB]
   refine (bindT awake_eq).trans ?_
   rfl
  ·rw [show (r3.2.2.2 != 0)=true from bne_iff_ne.2 he,zC,Tr.rB]
   refine (bindT awake_eq).trans ?_
   rfl)).trans ?_
 rfl
end
end Go.Proofs.YtedcnpankkaboaaGreat.Dg
