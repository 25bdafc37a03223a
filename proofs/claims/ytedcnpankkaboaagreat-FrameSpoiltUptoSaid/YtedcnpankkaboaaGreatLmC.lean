/- LmC: LmS7 LmS8 LmS9 LmS10 LmS11 LmS12 LmS13 LmS14 LmS15. -/
import Derived.Test.YtedcnpankkaboaaGreatLmB
set_option linter.unusedSimpArgs false
set_option linter.unusedVariables false
namespace Go.LM
section
section
variable {P:Program} {F:Nat->Prop} {w:World} {β:Nat->Option Conc}
theorem bound_low {d:Int} {lo:Option AV} {lov:Option Value} {l:Int} (h:bound d lo=some l) (hv:∀ a,lo=some a->∃ v,lov=some v/\RelV F w β a v) (hn:lo=none->lov=none) :
  (lo=none/\lov=none/\l=d)\/∃ k,lov=some (.int k l):=by
 cases lo with
 |none=>simp only [bound] at h;cases h;exact .inl ⟨rfl,hn rfl,rfl⟩
 |some a=>
  right
  obtain ⟨v,hv1,hv2⟩:=hv a rfl
  unfold bound at h
  split at h
  ·rename_i e;cases e
  ·rename_i k x e
   cases e;cases h
   exact ⟨k,by rw [hv1,hv2.int_inv]⟩
  ·cases h
theorem sliceBound_run {k:IntKind} {i:Int} {y:Nat} (code:BoundsCode) (h0:0<=i) (h1:i<=y):(Instr.sliceBound (.int k i) y code).run P w=.ok i.toNat w:=by
 unfold Instr.sliceBound
 simp only [Sem.run_bind,asIntOf,pure,Sem.run,Result.andThen_ok]
 rw [if_pos ⟨h0,h1⟩];rfl
theorem sliceBounds_run {s:Bool} {len cap:Nat} {lov hiv:Option Value} {l r:Int} (hl:(lov=none/\l=0)\/∃ k,lov=some (.int k l)) (hr:(hiv=none/\r=len)\/∃ k,hiv=some (.int k r))
  (h0:0<=l) (h1:l<=r) (h2:r<=len) (hc:len<=cap):(Instr.sliceBounds s len cap lov hiv none).run P w=.ok (l.toNat,r.toNat,cap) w:=by
 unfold Instr.sliceBounds
 rcases hl with ⟨rfl,rfl⟩|⟨k,rfl⟩
 ·rcases hr with ⟨rfl,rfl⟩|⟨k',rfl⟩
  ·simp [pure,Sem.run]
  ·simp only [Sem.run_bind,pure,Sem.run,Result.andThen_ok,sliceBound_run _ (show 0<=r by omega) (show r<=(cap:Int) by omega)]
   rfl
 ·rcases hr with ⟨rfl,rfl⟩|⟨k',rfl⟩
  ·simp only [Sem.run_bind,pure,Sem.run,Result.andThen_ok,sliceBound_run _ h0 (show l<=((len:Nat):Int) by omega)]
   rfl
  ·have:l<=((r.toNat:Nat):Int):=by omega
   simp only [Sem.run_bind,pure,Sem.run,Result.andThen_ok,sliceBound_run _ (show 0<=r by omega) (show r<=(cap:Int) by omega),sliceBound_run _ h0 this]
theorem bytes_extract (s:List UInt8) (l r:Nat) (h:l<=r) (h2:r<=s.length):(ByteArray.mk s.toArray).extract l r=⟨((s.drop l).take (r - l)).toArray⟩:=by
 apply ByteArray.ext
 rw [ByteArray.data_extract]
 simp [List.extract_toArray]
theorem sim_slice {X H} (g:Good X F w β H) {T:TypeId} {a v:AV} {lo hi:Option AV} {mx:Bool} {u:Value} {lov hiv mxv:Option Value} (h:exSlice P T H a lo hi mx=some v) (ha:RelV F w β a u)
  (hlo:(∀ x,lo=some x->∃ y,lov=some y/\RelV F w β x y)/\(lo=none->lov=none)) (hhi:(∀ x,hi=some x->∃ y,hiv=some y/\RelV F w β x y)/\(hi=none->hiv=none)) (hmx:mx=mxv.isSome) :
  ∃ r,(Instr.sliceAt T u lov hiv mxv).run P w=.ok r w/\RelV F w β v r:=by
 unfold exSlice at h
 split at h
 ·cases h
 rename_i hm
 have hmn:mxv=none:=by cases mxv with|none=>rfl|some x=>rw [hmx] at hm;simp at hm
 subst hmn
 have bnd:∀ {d:Int} {l r:Int},bound 0 lo=some l->bound d hi=some r->((lov=none/\l=0)\/∃ k,lov=some (.int k l))/\((hiv=none/\r=d)\/∃ k,hiv=some (.int k r)):=by
  intro d l r h1 h2
  refine ⟨?_,?_⟩
  ·rcases bound_low h1 hlo.1 hlo.2 with ⟨_,h3,h4⟩|h3
   ·exact .inl ⟨h3,h4⟩
   ·exact .inr h3
  ·rcases bound_low h2 hhi.1 hhi.2 with ⟨_,h3,h4⟩|h3
   ·exact .inl ⟨h3,h4⟩
   ·exact .inr h3
 split at h
 ·
  rename_i s hT
  cases hl:bound 0 lo with
  |none=>rw [hl] at h;cases h
  |some l=>
  cases hr:bound (s.length:Int) hi with
  |none=>rw [hl,hr] at h;cases h
  |some r=>
   rw [hl,hr] at h
   simp only [zb] at h
   split at h
   ·rename_i hin
    cases h
    rw [ha.str_inv]
    obtain ⟨b1,b2⟩:=bnd hl hr
    have hsz:(ByteArray.mk s.toArray).size=s.length:=by simp [ByteArray.size]
    refine ⟨.string ⟨((s.drop l.toNat).take (r - l).toNat).toArray⟩,?_,RelV.str _⟩
    unfold Instr.sliceAt
    simp only [Sem.run_bind,und hT,Result.andThen_ok]
    unfold Instr.slice
    simp only [Sem.run_bind,und hT,Result.andThen_ok,Option.isSome,Bool.false_eq_true,if_false,pure,Sem.run]
    rw [sliceBounds_run b1 (by rw [hsz];exact b2) hin.1 hin.2.1 (by rw [hsz];exact hin.2.2) (by omega)]
    simp only [Result.andThen_ok,Sem.run]
    rw [bytes_extract _ _ _ (by omega) (by omega),show r.toNat - l.toNat=(r - l).toNat by omega]
   ·cases h
 ·
  rename_i e t xs hT
  split at h
  ·rename_i hel
   have hel:=elemIs_some hel
   obtain ⟨_,⟨inf,hi2⟩,hi3,_,_⟩:=tyC_some hel
   cases hl:bound 0 lo with
   |none=>rw [hl] at h;cases h
   |some l=>
   cases hr:bound (List.length (α:=t.D) xs:Int) hi with
   |none=>rw [hl,hr] at h;cases h
   |some r=>
    rw [hl,hr] at h
    simp only [zb] at h
    split at h
    ·rename_i hin
     cases h
     obtain ⟨b1,b2⟩:=bnd hl hr
     rcases ha.dat_inv with ⟨_,hrep⟩|⟨hm',_⟩
     ·obtain ⟨A,c,rfl,hc,hx⟩:=slice_elem hrep
      refine ⟨.slice (if c=l.toNat then A else A.map (·.add (l.toNat*t.sz))) (r.toNat - l.toNat) (c - l.toNat),?_,?_⟩
      ·unfold Instr.sliceAt
       simp only [Sem.run_bind,und hT,Result.andThen_ok]
       unfold Instr.slice
       simp only [Sem.run_bind,und hT,Result.andThen_ok]
       rw [sliceBounds_run b1 b2 hin.1 hin.2.1 hin.2.2 hc]
       simp only [Result.andThen_ok,Sem.run_bind,sizeOf_run hi2,pure,Sem.run,hi3]
      ·refine .one _ _ rfl (.dat _ _ _ ?_)
       simp only [rep]
       have hlen:(List.take (r - l).toNat (List.drop l.toNat xs)).length=r.toNat - l.toNat:=by
        have:r<=(xs.length:Int):=hin.2.2
        simp;omega
       refine ⟨(if c=l.toNat then A else A.map (·.add (l.toNat*t.sz))),c - l.toNat,?_,by rw [hlen];omega,?_⟩
       ·rw [hlen]
       ·by_cases hz:r.toNat - l.toNat=0
        ·left;rw [hlen];exact hz
        ·right
         rcases hx with hx|⟨b,off,rfl,hF,hx⟩
         ·have:r<=(xs.length:Int):=hin.2.2
          omega
         ·have hle:r<=(xs.length:Int):=hin.2.2
          refine ⟨b,off+l.toNat*t.sz,?_,hF,fun i hi=>?_⟩
          ·rw [if_neg (by omega)];simp [addr_add]
          ·have hi':i<r.toNat - l.toNat:=by rw [←hlen];exact hi
           obtain ⟨us,h1,h2⟩:=hx (l.toNat+i) (by omega)
           refine ⟨us,?_,?_⟩
           ·rw [Nat.add_mul,←Nat.add_assoc] at h1;exact h1
           ·have:List.get (List.take (r - l).toNat (List.drop l.toNat xs)) ⟨i,hi⟩=xs[l.toNat+i]'(by omega):=by simp
            rw [this];exact h2
     ·simp [isMany] at hm'
    ·cases h
  ·cases h
 ·
  rename_i e id hT
  split at h
  ·rename_i t xs hA
   split at h
   ·rename_i hel
    have hel:=elemIs_some hel
    obtain ⟨_,⟨inf,hi2⟩,hi3,_,_⟩:=tyC_some hel
    cases hl:bound 0 lo with
    |none=>rw [hl] at h;cases h
    |some l=>
    cases hr:bound (xs.length:Int) hi with
    |none=>rw [hl,hr] at h;cases h
    |some r=>
     rw [hl,hr] at h
     simp only [zb] at h
     split at h
     ·rename_i hin
      cases h
      obtain ⟨b1,b2⟩:=bnd hl hr
      obtain ⟨c,t',len,rfl,hc,hsh,hle⟩:=ha.full_inv
      obtain ⟨h1,h2,h3⟩:=arrAt_rel g hA hc
      have hlen:len=xs.length/\t'=t:=by rw [hsh] at h1;simpa [arrSh] using h1
      obtain ⟨rfl,rfl⟩:=hlen
      refine ⟨.slice (if c.cap=l.toNat then c.adr else c.adr.map (fun z=>Addr.add z (l.toNat*t'.sz))) (r.toNat - l.toNat) (c.cap - l.toNat),?_,?_⟩
      ·unfold Instr.sliceAt
       simp only [Sem.run_bind,und hT,Result.andThen_ok]
       unfold Instr.slice
       simp only [Sem.run_bind,und hT,Result.andThen_ok]
       rw [sliceBounds_run b1 b2 hin.1 hin.2.1 hin.2.2 hle]
       simp only [Result.andThen_ok,Sem.run_bind,sizeOf_run hi2,pure,Sem.run,hi3]
      ·rw [show r.toNat - l.toNat=(r - l).toNat by omega]
       refine .one _ _ rfl (.sub id 0 l r c _ t' _ _ hc h1 hin.1 hin.2.1 hin.2.2 (by omega) ?_)
       by_cases e:l=r
       ·exact .inl e
       ·right
        cases hb:c.b with
        |none=>
         have:=h3 hb
         subst this
         simp at hin;omega
        |some b=>exact ⟨b,rfl,by rw [if_neg (by omega),Conc.adr_some hb];simp [addr_add]⟩
     ·cases h
   ·cases h
  ·cases h
 ·
  rename_i e id off q1 q2 hT
  split at h
  ·rename_i t xs hA
   split at h
   ·rename_i hel
    have hel:=elemIs_some hel
    obtain ⟨_,⟨inf,hi2⟩,hi3,_,_⟩:=tyC_some hel
    cases hl:bound 0 lo with
    |none=>rw [hl] at h;cases h
    |some l=>
    cases hr:bound (q2 - q1) hi with
    |none=>rw [hl,hr] at h;cases h
    |some r=>
     rw [hl,hr] at h
     simp only [zb] at h
     split at h
     ·rename_i hin
      cases h
      obtain ⟨b1,b2⟩:=bnd hl hr
      obtain ⟨c,m,t',A,cap,rfl,hc,hsh,h4,h5,h6,h7,h8⟩:=ha.sub_inv
      obtain ⟨h1,h2,h3⟩:=arrAt_rel g hA hc
      rw [hsh] at h1;cases h1
      refine ⟨.slice (if cap=l.toNat then A else A.map (·.add (l.toNat*t.sz))) (r.toNat - l.toNat) (cap - l.toNat),?_,?_⟩
      ·unfold Instr.sliceAt
       simp only [Sem.run_bind,und hT,Result.andThen_ok]
       unfold Instr.slice
       simp only [Sem.run_bind,und hT,Result.andThen_ok]
       rw [sliceBounds_run b1 (by rw [show (((q2 - q1).toNat:Nat):Int)=q2 - q1 by omega];exact b2) hin.1 hin.2.1 (by omega) h7]
       simp only [Result.andThen_ok,Sem.run_bind,sizeOf_run hi2,pure,Sem.run,hi3]
      ·rw [show r.toNat - l.toNat=(q1+r - (q1+l)).toNat by omega]
       refine .one _ _ rfl (.sub id off (q1+l) (q1+r) c _ t _ _ hc hsh (by omega) (by omega) (by omega) (by omega) ?_)
       by_cases e:l=r
       ·left;omega
       ·right
        rcases h8 with h8|⟨b,hb,rfl⟩
        ·omega
        refine ⟨b,hb,?_⟩
        rw [if_neg (by omega)]
        simp only [Option.map_some,addr_add]
        rw [show (q1+l).toNat=q1.toNat+l.toNat by omega,Nat.add_mul,Nat.add_assoc]
     ·cases h
   ·cases h
  ·cases h
 ·
  rename_i n e id p hT
  split at h
  ·rename_i m t hp hA
   split at h
   ·rename_i hel
    obtain ⟨hel,rfl⟩:=hel
    have hel:=elemIs_some hel
    obtain ⟨_,⟨inf,hi2⟩,hi3,_,_⟩:=tyC_some hel
    cases hl:bound 0 lo with
    |none=>rw [hl] at h;cases h
    |some l=>
    cases hr:bound (n:Int) hi with
    |none=>rw [hl,hr] at h;cases h
    |some r=>
     rw [hl,hr] at h
     simp only [zb] at h
     split at h
     ·rename_i hin
      cases h
      obtain ⟨b1,b2⟩:=bnd hl hr
      obtain ⟨c,b,o,rfl,hc,hb,ho⟩:=ha.ptr_inv
      have hsh:=arrLeaf_rel g hA hc
      have hoo:o=p.off:=by unfold placeOf at ho;rw [hp] at ho;cases ho;rfl
      subst hoo
      refine ⟨.slice (some (if n=l.toNat then ⟨b,p.off,none⟩ else (⟨b,p.off,none⟩:Addr).add (l.toNat*t.sz))) (r.toNat - l.toNat) (n - l.toNat),?_,?_⟩
      ·unfold Instr.sliceAt
       simp only [Sem.run_bind,und hT,Result.andThen_ok,Instr.sureAddr,pure,Sem.run]
       rw [sliceBounds_run b1 b2 hin.1 hin.2.1 hin.2.2 (Nat.le_refl _)]
       simp only [Result.andThen_ok,Sem.run_bind,sizeOf_run hi2,pure,Sem.run,hi3]
      ·rw [show r.toNat - l.toNat=(r - l).toNat by omega]
       refine .one _ _ rfl (.sub id p.off l r c _ t _ _ hc hsh hin.1 hin.2.1 hin.2.2 (by omega) ?_)
       by_cases e:l=r
       ·exact .inl e
       ·right
        exact ⟨b,hb,by rw [if_neg (by omega)];simp [addr_add]⟩
     ·cases h
   ·cases h
  ·cases h
 ·cases h
theorem boundS_val {lo:Option AV} {lov:Option Value} {l:Int} (h:boundS lo=some l) (hv:∀ a,lo=some a->∃ v,lov=some v/\RelV F w β a v):∃ k,lov=some (.int k l):=by
 unfold boundS at h
 split at h
 ·rename_i k x
  cases h
  obtain ⟨v,hv1,hv2⟩:=hv _ rfl
  exact ⟨k,by rw [hv1,hv2.int_inv]⟩
 ·cases h
theorem sliceBounds3_run {len cap:Nat} {lov hiv mxv:Option Value} {l r m:Int} (hl:∃ k,lov=some (.int k l)) (hr:∃ k,hiv=some (.int k r)) (hm:∃ k,mxv=some (.int k m))
  (h0:0<=l) (h1:l<=r) (h2:r<=m) (hc:m<=cap):(Instr.sliceBounds true len cap lov hiv mxv).run P w=.ok (l.toNat,r.toNat,m.toNat) w:=by
 obtain ⟨k1,rfl⟩:=hl
 obtain ⟨k2,rfl⟩:=hr
 obtain ⟨k3,rfl⟩:=hm
 unfold Instr.sliceBounds
 have a1:l<=((r.toNat:Nat):Int):=by omega
 have a2:r<=((m.toNat:Nat):Int):=by omega
 simp only [Sem.run_bind,pure,Sem.run,Result.andThen_ok,sliceBound_run _ (show 0<=m by omega) (show m<=(cap:Int) by omega),sliceBound_run _ (show 0<=r by omega) a2,sliceBound_run _ h0 a1]
theorem sim_slice3 {T:TypeId} {a v:AV} {lo hi mx:Option AV} {u:Value} {lov hiv mxv:Option Value} (h:exSlice3 P T a lo hi mx=some v) (ha:RelV F w β a u)
  (hlo:∀ x,lo=some x->∃ y,lov=some y/\RelV F w β x y) (hhi:∀ x,hi=some x->∃ y,hiv=some y/\RelV F w β x y) (hmx:∀ x,mx=some x->∃ y,mxv=some y/\RelV F w β x y) :
  ∃ r,(Instr.sliceAt T u lov hiv mxv).run P w=.ok r w/\RelV F w β v r:=by
 unfold exSlice3 at h
 split at h
 ·rename_i e t xs hT
  split at h
  ·rename_i hel
   have hel:=elemIs_some hel
   obtain ⟨_,⟨inf,hi2⟩,hi3,_,_⟩:=tyC_some hel
   obtain ⟨l,hl,h⟩:=zB.1 h
   obtain ⟨r,hr,h⟩:=zB.1 h
   obtain ⟨m,hm,h⟩:=zB.1 h
   split at h
   ·rename_i hin
    cases h
    have b1:=boundS_val hl hlo
    have b2:=boundS_val hr hhi
    have b3:=boundS_val hm hmx
    rcases ha.dat_inv with ⟨_,hrep⟩|⟨hm',_⟩
    ·obtain ⟨A,c,rfl,hc,hx⟩:=slice_elem hrep
     have hle:m<=(xs.length:Int):=hin.2.2.2
     have hcc:xs.length<=c:=hc
     refine ⟨.slice (if m.toNat=l.toNat then A else A.map (·.add (l.toNat*t.sz))) (r.toNat - l.toNat) (m.toNat - l.toNat),?_,?_⟩
     ·unfold Instr.sliceAt
      simp only [Sem.run_bind,und hT,Result.andThen_ok]
      unfold Instr.slice
      simp only [Sem.run_bind,und hT,Result.andThen_ok]
      rw [sliceBounds3_run b1 b2 b3 hin.1 hin.2.1 hin.2.2.1 (by omega)]
      simp only [Result.andThen_ok,Sem.run_bind,sizeOf_run hi2,pure,Sem.run,hi3]
     ·refine .one _ _ rfl (.dat _ _ _ ?_)
      simp only [rep]
      have hlen:(List.take (r - l).toNat (List.drop l.toNat xs)).length=r.toNat - l.toNat:=by
       simp;omega
      refine ⟨(if m.toNat=l.toNat then A else A.map (·.add (l.toNat*t.sz))),m.toNat - l.toNat,?_,by rw [hlen];omega,?_⟩
      ·rw [hlen]
      ·by_cases hz:r.toNat - l.toNat=0
       ·left;rw [hlen];exact hz
       ·right
        rcases hx with hx|⟨b,off,rfl,hF,hx⟩
        ·omega
        ·refine ⟨b,off+l.toNat*t.sz,?_,hF,fun i hi=>?_⟩
         ·rw [if_neg (by omega)];simp [addr_add]
         ·have hi':i<r.toNat - l.toNat:=by rw [←hlen];exact hi
          obtain ⟨us,h1,h2⟩:=hx (l.toNat+i) (by omega)
          refine ⟨us,?_,?_⟩
          ·rw [Nat.add_mul,←Nat.add_assoc] at h1;exact h1
          ·have:List.get (List.take (r - l).toNat (List.drop l.toNat xs)) ⟨i,hi⟩=xs[l.toNat+i]'(by omega):=by simp
           rw [this];exact h2
    ·simp [isMany] at hm'
   ·cases h
  ·cases h
 ·cases h
end
end
section
section
variable {P:Program} {F:Nat->Prop} {w:World} {β:Nat->Option Conc}
def RowsF (F:Nat->Prop) (β:Nat->Option Conc) (H:Heap) (l:List AV):Prop:=
 ∀ id,(AV.full id∈l\/∃ off lo hi,AV.sub id off lo hi∈l)->(¬ ∃ e xs,H id=some (.deep e xs none))/\((∃ t xs fr,H id=some (.row t xs fr))->∀ c b,β id=some c->c.b=some b->F b)
theorem isRow_full {H:Heap} {id:Nat} (h:isRow H (.full id)=true):∃ t xs fr,H id=some (.row t xs fr):=by
 unfold isRow at h
 split at h
 ·rename_i e;cases e;split at h
  ·exact ⟨_,_,_,by assumption⟩
  ·cases h
 ·rename_i e;cases e
 ·rename_i e _;exact absurd rfl (e id)
theorem isRow_sub {H:Heap} {id off:Nat} {lo hi:Int} (h:isRow H (.sub id off lo hi)=true):∃ t xs fr,H id=some (.row t xs fr):=by
 simp only [isRow] at h
 split at h
 ·exact ⟨_,_,_,by assumption⟩
 ·cases h
theorem elems_rep {X H} (g:Good X F w β H) {a:AV} {t:Ty} {xs:List t.D} (h:elemsOf H a=some ⟨t,xs⟩) {vs:List Value} (hr:RelC F w β a vs) (hrow:isRow H a=true) (hF:RowsF F β H [a]):rep F w (.sl t) xs vs:=by
 unfold elemsOf at h
 split at h
 ·cases h;cases hr with|dat _ _ _ h=>exact h
 ·cases h;cases hr with|nz _ _ _ A n c h _=>exact h
 ·rename_i id
  cases hr with
  |full _ c t' len hc hsh hle=>
  obtain ⟨h1,h2,h3⟩:=arrAt_rel g h hc
  have:len=xs.length:=by rw [hsh] at h1;simp [arrSh] at h1;omega
  subst this
  simp only [rep]
  refine ⟨_,_,rfl,hle,?_⟩
  cases hb:c.b with
  |none=>left;rw [h3 hb];rfl
  |some b=>
   right
   obtain ⟨l,hl,hle2,hrep⟩:=h2 b hb
   refine ⟨b,0,Conc.adr_some hb,(hF id (.inl (List.mem_singleton.2 rfl))).2 (isRow_full hrow) c b hc hb,fun i hi=>?_⟩
   obtain ⟨_,_,h5⟩:=rep_ar_iff.1 hrep
   have hm:(i+1)*t.sz<=xs.length*t.sz:=Nat.mul_le_mul_right _ hi
   rw [Nat.add_mul] at hm
   have:=h5 i hi
   rw [seg_seg _ (by omega)] at this
   exact ⟨_,⟨l,hl,by omega,rfl⟩,this⟩
 ·rename_i id off lo hi
  split at h
  ·rename_i t' ys hA
   cases h
   cases hr with
   |sub _ _ _ _ c n t' A cap hc hsh h4 h5 h6 h7 h8=>
   obtain ⟨h1,h2,h3⟩:=arrAt_rel g hA hc
   rw [hsh] at h1;cases h1
   have hlen:(List.take (hi - lo).toNat (List.drop lo.toNat ys)).length=(hi - lo).toNat:=by simp;omega
   simp only [rep]
   refine ⟨A,cap,by rw [hlen],by rw [hlen];exact h7,?_⟩
   rcases h8 with h8|⟨b,hb,rfl⟩
   ·left;rw [hlen];omega
   ·right
    obtain ⟨l,hl,hle2,hrep⟩:=h2 b hb
    obtain ⟨_,_,h9⟩:=rep_ar_iff.1 hrep
    refine ⟨b,off+lo.toNat*t.sz,rfl,(hF id (.inr ⟨off,lo,hi,List.mem_singleton.2 rfl⟩)).2 (isRow_sub hrow) c b hc hb,fun i hi'=>?_⟩
    have hi'':i<(hi - lo).toNat:=by rw [←hlen];exact hi'
    have hlt:lo.toNat+i<ys.length:=by omega
    have hm:(lo.toNat+i+1)*t.sz<=ys.length*t.sz:=Nat.mul_le_mul_right _ hlt
    rw [Nat.add_mul,Nat.add_mul] at hm
    have:=h9 (lo.toNat+i) hlt
    rw [Nat.add_mul,seg_seg _ (by omega),←Nat.add_assoc] at this
    refine ⟨_,⟨l,hl,by omega,rfl⟩,?_⟩
    have hg:List.get (List.take (hi - lo).toNat (List.drop lo.toNat ys)) ⟨i,hi'⟩=ys[lo.toNat+i]:=by simp
    rw [hg]
    exact this
  ·cases h
 ·cases h
theorem asList_rep {X H} (g:Good X F w β H) {a:AV} {t:Ty} {xs:List t.D} (h:asList H t a=some xs) {vs:List Value} (hr:RelC F w β a vs) (hrow:isRow H a=true) (hF:RowsF F β H [a]):rep F w (.sl t) xs vs:=by
 unfold asList at h
 split at h
 ·cases h;cases hr;simp only [rep];exact ⟨none,0,rfl,Nat.le_refl _,.inl rfl⟩
 ·split at h
  ·rename_i t' ys hE
   obtain ⟨rfl,rfl⟩:=castL_some h
   exact elems_rep g hE hr hrow hF
  ·cases h
theorem RowsF.cons {H:Heap} {a:AV} {l:List AV} (h:RowsF F β H (a::l)):RowsF F β H [a]/\RowsF F β H l:=
 ⟨fun id hid=>h id (hid.imp (fun h=>List.mem_cons.2 (.inl (List.mem_singleton.1 h))) fun ⟨o,lo,hi,h⟩=>⟨o,lo,hi,List.mem_cons.2 (.inl (List.mem_singleton.1 h))⟩),
  fun id hid=>h id (hid.imp (fun h=>List.mem_cons_of_mem _ h) fun ⟨o,lo,hi,h⟩=>⟨o,lo,hi,List.mem_cons_of_mem _ h⟩)⟩
theorem packU_rep {X H} (g:Good X F w β H) (rows:Bool):∀ (u:Ty) (l:List AV) (x:u.D) (rest:List AV) (vs:List Value),packU H rows u l=some (x,rest)->RelCs F w β l vs->(rows=true->RowsF F β H l) ->
  ∃ us ws,vs=us++ws/\rep F w u x us/\RelCs F w β rest ws/\(rows=true->RowsF F β H rest):=by
 intro u
 have leaf:∀ (u:Ty) (l:List AV) (x:u.D) (rest:List AV) (vs:List Value),(match l with | .dat t y::r=>(cast' y).map fun z=>(z,r)|_=>none)=some (x,rest)->RelCs F w β l vs->(rows=true->RowsF F β H l) ->
   ∃ us ws,vs=us++ws/\rep F w u x us/\RelCs F w β rest ws/\(rows=true->RowsF F β H rest):=by
  intro u l x rest vs h hr hF
  split at h
  ·rename_i t y r
   cases hy:cast' (b:=u) y with
   |none=>rw [hy] at h;cases h
   |some z=>
    rw [hy] at h;cases h
    cases hr with
    |cons _ _ us vs h1 h2 h3=>
    cases h1 with
    |dat _ _ _ h1=>exact ⟨us,vs,rfl,(cast'_rep hy h1).2,h3,fun e=>(hF e).cons.2⟩
  ·cases h
 induction u with
 |un=>intro l x rest vs h hr hF;simp only [packU] at h;cases h;exact ⟨[],vs,rfl,by simp [rep],hr,hF⟩
 |pr a b iha ihb=>
  intro l x rest vs h hr hF
  simp only [packU] at h
  have comp:((packU H rows a l).bind fun p=>(packU H rows b p.2).bind fun q=>some ((p.1,q.1),q.2))=some (x,rest)->∃ us ws,vs=us++ws/\rep F w (.pr a b) x us/\RelCs F w β rest ws/\(rows=true->RowsF F β H rest):=by
   intro h
   cases h1:packU H rows a l with
   |none=>rw [h1] at h;cases h
   |some p=>
    obtain ⟨y,l1⟩:=p
    rw [h1] at h
    simp only [zb] at h
    cases h2:packU H rows b l1 with
    |none=>rw [h2] at h;cases h
    |some q=>
     obtain ⟨z,l2⟩:=q
     rw [h2] at h;cases h
     obtain ⟨us,ws,rfl,h3,h4,h5⟩:=iha _ _ _ _ h1 hr hF
     obtain ⟨us',ws',rfl,h6,h7,h8⟩:=ihb _ _ _ _ h2 h4 h5
     refine ⟨us++us',ws',by simp,?_,h7,h8⟩
     simp only [rep]
     exact ⟨us,us',rfl,h3,h6⟩
  split at h
  ·rename_i t y r
   split at h
   ·exact leaf _ (.dat t y::r) _ _ _ h hr hF
   ·exact comp h
  ·exact comp h
 |sl e ih=>
  intro l x rest vs h hr hF
  simp only [packU] at h
  split at h
  ·cases h
   cases hr with
   |cons _ _ us vs h1 h2 h3=>
   cases h1
   refine ⟨[_],vs,rfl,?_,h3,fun e=>(hF e).cons.2⟩
   simp only [rep];exact ⟨none,0,rfl,Nat.le_refl _,.inl rfl⟩
  ·rename_i t y r
   exact leaf (.sl e) (.dat t y::r) _ _ _ h hr hF
  ·rename_i a r _ _
   split at h
   ·rename_i hrows
    simp only [Bool.and_eq_true] at hrows
    cases hy:asList H e a with
    |none=>rw [hy] at h;cases h
    |some z=>
     rw [hy] at h;cases h
     cases hr with
     |cons _ _ us vs h1 h2 h3=>
     exact ⟨us,vs,rfl,asList_rep g hy h1 hrows.2 (hF hrows.1).cons.1,h3,fun e=>(hF e).cons.2⟩
   ·cases h
  ·cases h
 |int k=>intro l x rest vs h hr hF;exact leaf (.int k) l x rest vs h hr hF
 |bool=>intro l x rest vs h hr hF;exact leaf .bool l x rest vs h hr hF
 |str=>intro l x rest vs h hr hF;exact leaf .str l x rest vs h hr hF
 |ar n e=>intro l x rest vs h hr hF;exact leaf (.ar n e) l x rest vs h hr hF
theorem RelV.leaves' {a:AV} {v:Value} (h:RelV F w β a v) (hv:isVal a=true):RelCs F w β a.leaves v.cells.toList:=
 h.leaves (fun xs e=>by subst e;cases hv) (fun e=>by subst e;cases hv)
theorem pack_rep {X H} (g:Good X F w β H) {rows:Bool} {u:Ty} {a:AV} {x:u.D} (h:pack H rows u a=some x) {v:Value} (hr:RelV F w β a v) (hF:rows=true->RowsF F β H a.leaves):rep F w u x v.cells.toList:=by
 unfold pack at h
 split at h
 ·rename_i hv
  split at h
  ·rename_i y hp
   cases h
   obtain ⟨us,ws,h1,h2,h3,_⟩:=packU_rep g rows u _ _ _ _ hp (hr.leaves' hv) hF
   cases h3
   rw [h1,List.append_nil]
   exact h2
  ·cases h
 ·cases h
theorem isVal_of_cells {a:AV} {n:Nat} (h:cellsL a.leaves=n) (hn:n≠0):isVal a=true:=by
 cases a<;>simp [isVal,AV.leaves,cellsL,AV.csz] at h ⊢<;>omega
theorem write_run {X H} (g:Good X F w β H) {id b:Nat} {c:Conc} (hid:β id=some c) (hown:ownB (H id)=true) (hb:c.b=some b) {l:List Value} (hl:cellsAt w b=some l) {k:Nat} {us:List Value}
  (hle:k+us.length<=l.length) (hone:∀ v∈us,v.oneCell'=true) (hfr:∀ o,o<l.length->frz w ⟨b,o,none⟩=false) {blk:Blk}
  (hB:∀ w',Ext F w β F w' β->cellsAt w' b=some (splice l k us)->(∀ o,frz w' ⟨b,o,none⟩=frz w ⟨b,o,none⟩)->(∀ b',b'≠b->w'.heap[b']?=w.heap[b']?)->BRel F w' β c blk) (hown':blk≠.dead->ownB (some blk)=true)
  (hin:∀ w',cellsAt w' b=some (splice l k us)->∀ b',Inner w' c (some blk) b'->Inner w c (H id) b') :
  ∃ w',(storeCells ⟨b,k,none⟩ us).run P w=.ok () w'/\Good X F w' β (H.set id blk)/\Ext F w β F w' β:=by
 obtain ⟨w',h1,h2,h3,h4,h5,h6⟩:=store_run (P:=P) us w b k 0 l hl (by omega) (fun j hj=>by
  rcases Nat.lt_or_ge (k+0+j) l.length with hh|hh
  ·rw [hfr _ hh] at hj;cases hj
  ·omega) hone
 rw [Nat.add_zero] at h4
 obtain ⟨o1,o2,o3⟩:=g.own id c b hid hown hb
 have ex:Ext F w β F w' β:=⟨fun b' h=>⟨h,cellsAt_of_heap (h3 b' fun e=>o1 (e▸h))⟩,fun _ _ h=>h⟩
 obtain ⟨g',e'⟩:=g.write hid hown hb (w':=w') h3 h2 h6 (hB w' ex h4 (fun o=>h5 b o) h3) hown' (hin w' h4)
 exact ⟨w',h1,g',e'⟩
theorem storeVar_run {T:TypeId} {v:Value} (hi:∃ i,P.info? T=some i) (hv:v.cells.size=P.cellsOf T) (a:Addr):(storeVar T a v).run P w=(storeCells a v.cells.toList).run P w:=by
 obtain ⟨i,hi⟩:=hi
 unfold storeVar
 simp only [Sem.run_bind,sizeOf_run hi,Result.andThen_ok]
 rw [if_neg (by simp [hv])]
theorem info_of_cells {T:TypeId} (h:P.cellsOf T≠0):∃ i,P.info? T=some i:=by
 cases hi:P.info? T with
 |none=>exact absurd (by simp [Program.cellsOf,hi]) h
 |some i=>exact ⟨i,rfl⟩
theorem setArr_write {X H H'} (g:Good X F w β H) {id off b:Nat} {c:Conc} (hc:β id=some c) (hb:c.b=some b) {t:Ty} {xs ys:List t.D} (hA:arrAt H id off=some ⟨t,xs⟩) (hS:setArr H id off t ys=some H')
  (hlen:ys.length=xs.length) {l:List Value} (hl:cellsAt w b=some l) {k:Nat} {us:List Value} (hk:off<=k) (hk2:k+us.length<=off+xs.length*t.sz) (hone:∀ v∈us,v.oneCell'=true)
  (hnew:rep F w (.ar xs.length t) ys (((splice l k us).drop off).take (xs.length*t.sz))) :
  ∃ w',(storeCells ⟨b,k,none⟩ us).run P w=.ok () w'/\Good X F w' β H'/\Ext F w β F w' β:=by
 obtain ⟨ha1,ha2,ha3⟩:=arrAt_rel g hA hc
 obtain ⟨l',hl',hle',hrep⟩:=ha2 b hb
 rw [hl] at hl';cases hl'
 have hsplen:(splice l k us).length=l.length:=splice_len _ _ _ (by omega)
 unfold setArr at hS
 obtain ⟨blk,hb1,hb2⟩:=g.hr id c hc
 rw [hb1] at hS
 unfold arrAt at hA
 rw [hb1] at hA
 cases blk with
 |dead=>cases hA
 |deep _ _ _=>cases hA
 |mapB _ _ _=>cases hA
 |row t' zs fr=>
  simp only at hA hS
  split at hA
  ·rename_i hoff
   subst hoff
   cases hA
   split at hS
   ·rename_i hfr
    obtain ⟨_,rfl⟩:=hfr
    cases hq:castL (u:=t) ys with
    |none=>rw [hq] at hS;cases hS
    |some q=>
     rw [hq] at hS;cases hS
     obtain rfl:ys=q:=by obtain ⟨e,h⟩:=castL_some hq;exact h.symm
     obtain ⟨r1,r2,r3,r4⟩:=hb2
     obtain ⟨⟨l2,hl2,hsz2,hrr⟩,r5,r6⟩:=r4 b hb
     rw [hl] at hl2;cases hl2
     refine write_run (P:=P) g hc (by rw [hb1];rfl) hb hl (k:=k) (us:=us) (by omega) hone (fun o ho=>r6 rfl o (by omega)) (blk:=.row t ys false) ?_ (fun _=>rfl) (fun _ _ _ h=>h.elim)
     intro w' ex hcl hf _
     refine ⟨by rw [hlen];exact r1,by rw [hlen];exact r2,fun e=>?_,fun b' hb'=>?_⟩
     ·have h9:=r3 e
      have h8:=h9.1
      subst h8
      exact ⟨List.eq_nil_of_length_eq_zero hlen,h9.2⟩
     ·rw [hb] at hb';cases hb'
      refine ⟨⟨_,hcl,by rw [hsplen];exact hsz2,fun j hj=>?_⟩,(fun e=>by cases e),fun _ o ho=>(hf o).trans (r6 rfl o ho)⟩
      obtain ⟨_,_,h11⟩:=rep_ar_iff.1 (rep_mono ex.f _ _ _ hnew)
      have h12:=h11 j hj
      have hm2:(j+1)*t.sz<=xs.length*t.sz:=Nat.mul_le_mul_right _ (by omega)
      rw [Nat.add_mul] at hm2
      rw [seg_seg _ (by omega),Nat.zero_add] at h12
      exact h12
   ·cases hS
  ·cases hA
 |vars cs=>
  simp only at hA hS
  split at hA
  ·rename_i n t' zs hleaf
   cases hA
   rw [hleaf] at hS
   simp only at hS
   cases hq:castL (u:=t) ys with
   |none=>rw [hq] at hS;cases hS
   |some q=>
    rw [hq] at hS
    obtain rfl:ys=q:=by obtain ⟨e,h⟩:=castL_some hq;exact h.symm
    simp only [zb] at hS
    cases hs:setLeaf cs off (.dat (.ar n t) ys) with
    |none=>rw [hs] at hS;cases hS
    |some cs'=>
     rw [hs] at hS;cases hS
     obtain ⟨⟨hs1,hs2⟩,b',hb',⟨cl,hcl,hrel⟩,hfz⟩:=hb2
     rw [hb] at hb';cases hb'
     rw [hl] at hcl;cases hcl
     obtain ⟨hv1,hv2⟩:=leafAt_rel _ _ _ _ hleaf hrel
     have hn:xs.length=n:=by
      cases hv2 with
      |dat _ _ _ h=>exact (rep_ar_iff.1 h).1
     subst hn
     have hnl:=rep_len _ _ _ hnew
     have hset:=setLeaf_rel _ _ _ _ _ _ _ hleaf hs hrel (.dat _ _ _ hnew) (by rw [hnl];rfl) rfl
     obtain ⟨hsh1,hsh2⟩:=setLeaf_sh _ _ _ _ _ hleaf hs rfl rfl
     have heq:splice l off (((splice l k us).drop off).take (xs.length*t.sz))=splice l k us:=by
      rw [splice_in _ _ _ _ _ hk hk2 hle',splice_splice _ _ _ _ _ (by omega) hle']
      congr 1;omega
     rw [heq] at hset
     refine write_run (P:=P) g hc (by rw [hb1];rfl) hb hl (k:=k) (us:=us) (by omega) hone (fun o ho=>hfz o) (blk:=.vars cs') ?_ (fun _=>rfl) (fun _ _ _ h=>h.elim)
     intro w' ex hcl hf _
     exact ⟨⟨by rw [hsh1];exact hs1,by rw [hsh2];exact hs2⟩,b,hb,⟨_,hcl,hset.mono ex⟩,fun o=>(hf o).trans (hfz o)⟩
  ·cases hA
theorem sim_store {X H H'} (g:Good X F w β H) {T:TypeId} {a v:AV} {u val:Value} (h:exStore P T H a v=some H') (ha:RelV F w β a u) (hv:RelV F w β v val) :
  ∃ w',(Instr.storeAt T u val).run P w=.ok () w'/\Good X F w' β H'/\Ext F w β F w' β:=by
 unfold exStore at h
 split at h
 ·rename_i id p
  obtain ⟨c,b,o,rfl,hc,hb,ho⟩:=ha.ptr_inv
  have hrun:∀ w'',(storeCells ⟨b,o,none⟩ val.cells.toList).run P w=.ok () w''->(∃ i,P.info? T=some i)->val.cells.size=P.cellsOf T->(Instr.storeAt T (.pointer (some ⟨b,o,none⟩)) val).run P w=.ok () w'':=by
   intro w'' h1 h2 h3
   unfold Instr.storeAt
   simp only [Sem.run_bind,Instr.sureAddr,pure,Sem.run,Result.andThen_ok]
   rw [storeVar_run h2 h3]
   exact h1
  split at h
  ·rename_i hp
   split at h
   ·rename_i cs hH
    split at h
    ·rename_i hsz
     cases hq:putL cs p.off (P.cellsOf T) v.leaves with
     |none=>rw [hq] at h;cases h
     |some cs'=>
      rw [hq] at h
      simp only [zb] at h
      split at h
      ·rename_i hsh
       cases h
       obtain ⟨blk,hb1,hb2⟩:=g.hr id c hc
       rw [hH] at hb1;cases hb1
       obtain ⟨⟨hs1,hs2⟩,b',hb',⟨cl,hcl,hrel⟩,hfz⟩:=hb2
       rw [hb] at hb';cases hb'
       have hoo:o=p.off:=by unfold placeOf at ho;rw [hp] at ho;cases ho;rfl
       subst hoo
       have hval:=hv.leaves' (isVal_of_cells hsz.1 hsz.2)
       have hvlen:val.cells.toList.length=P.cellsOf T:=by rw [hval.len];exact hsz.1
       obtain ⟨h1,h2⟩:=putL_rel _ _ _ _ _ _ _ hq hrel hval hvlen
       obtain ⟨w',hw1,hw2,hw3⟩:=write_run (P:=P) g hc (by rw [hH];rfl) hb hcl (k:=p.off) (us:=val.cells.toList) (by omega) hval.oneC (fun o _=>hfz o) (blk:=.vars cs')
        (fun w' ex hl hf _=>⟨⟨by rw [hs1,hsh.1],hsh.2⟩,b,hb,⟨_,hl,h2.mono ex⟩,fun o=>(hf o).trans (hfz o)⟩) (fun _=>rfl) (fun _ _ _ h=>h.elim)
       exact ⟨w',hrun w' hw1 (info_of_cells hsz.2) (by simpa using hvlen),hw2,hw3⟩
      ·cases h
    ·cases h
   ·cases h
  ·rename_i i o' rest hp
   split at h
   ·rename_i t xs hA
    cases hT:tyC P T with
    |none=>rw [hT] at h;cases h
    |some q=>
    rw [hT] at h
    simp only [zb] at h
    cases hy:pack H false q v with
    |none=>rw [hy] at h;cases h
    |some y=>
    rw [hy] at h
    simp only [zb] at h
    cases hz:setP rest t (xs.getD i.toNat t.dflt) o' q y with
    |none=>rw [hz] at h;cases h
    |some z=>
    rw [hz] at h
    simp only [zb] at h
    obtain ⟨_,hinf,hsz,_,_⟩:=tyC_some hT
    have hval:=pack_rep g hy hv (fun e=>by cases e)
    have hvlen:=rep_len _ _ _ hval
    obtain ⟨hin,l,k',hl,hk',rfl,hle,hr⟩:=elem_at g hp hA hc hb ho
    obtain ⟨h8,h9⟩:=setP_rep _ _ _ _ _ _ _ _ _ _ hr hval hz hk'
    have hlen:=rep_len _ _ _ hr
    have hone:=rep_one _ _ _ hval
    obtain ⟨ha1,ha2,ha3⟩:=arrAt_rel g hA hc
    obtain ⟨l',hl',hle',hrep⟩:=ha2 b hb
    rw [hl] at hl';cases hl'
    have hm:(i.toNat+1)*t.sz<=xs.length*t.sz:=Nat.mul_le_mul_right _ (by omega)
    rw [Nat.add_mul] at hm
    have hnew:rep F w (.ar xs.length t) (xs.set i.toNat z) (splice ((l.drop p.off).take (xs.length*t.sz)) (i.toNat*t.sz+k') val.cells.toList):=by
     have h10:=ar_set hrep (i:=i.toNat) (by omega) h9
     have e1:=splice_splice ((l.drop p.off).take (xs.length*t.sz)) val.cells.toList (i.toNat*t.sz) t.sz k' (by omega) (by simp;omega)
     rw [seg_seg _ (show i.toNat*t.sz+t.sz<=xs.length*t.sz by omega)] at e1
     rw [e1] at h10
     exact h10
    have hseg:((splice l (p.off+i.toNat*t.sz+k') val.cells.toList).drop p.off).take (xs.length*t.sz)=splice ((l.drop p.off).take (xs.length*t.sz)) (i.toNat*t.sz+k') val.cells.toList:=by
     rw [splice_in _ _ _ _ _ (by omega) (by omega) (by omega)]
     congr 1;omega
    rw [←hseg] at hnew
    obtain ⟨w',hw1,hw2,hw3⟩:=setArr_write (P:=P) g hc hb hA h (by rw [List.length_set]) hl (by omega) (by omega) hone hnew
    exact ⟨w',hrun w' hw1 hinf (by rw [hsz];simpa using hvlen),hw2,hw3⟩
   ·cases h
 ·cases h
end
end
section
section
variable {P:Program} {F:Nat->Prop} {w:World} {β:Nat->Option Conc}
theorem decN_rep {e:Ty} (ih:∀ (l:List Value) (x:e.D) (r:List Value),decU e l=some (x,r)->∃ us,l=us++r/\rep F w e x us) :
  ∀ (n:Nat) (l:List Value) (xs:List e.D) (r:List Value),decN (decU e) n l=some (xs,r)->∃ us,l=us++r/\rep F w (.ar n e) xs us:=by
 intro n
 induction n with
 |zero=>intro l xs r h;simp only [decN] at h;cases h;exact ⟨[],rfl,rep_ar_iff.2 ⟨rfl,by simp,fun i hi=>by simp at hi⟩⟩
 |succ n ihn=>
  intro l xs r h
  simp only [decN] at h
  split at h
  ·rename_i x r1 h1
   split at h
   ·rename_i ys r2 h2
    cases h
    obtain ⟨us,rfl,h3⟩:=ih _ _ _ h1
    obtain ⟨ws,rfl,h4⟩:=ihn _ _ _ h2
    have hu:=rep_len _ _ _ h3
    obtain ⟨h5,h6,h7⟩:=rep_ar_iff.1 h4
    refine ⟨us++ws,by simp,rep_ar_iff.2 ⟨by simp [h5],by simp [hu,h6,Nat.add_mul];omega,fun i hi=>?_⟩⟩
    cases i with
    |zero=>simp only [Nat.zero_mul,List.drop_zero,List.getElem_cons_zero];rw [List.take_append_of_le_length (by omega),List.take_of_length_le (by omega)];exact h3
    |succ i=>
     simp only [List.getElem_cons_succ]
     rw [List.drop_append,List.drop_of_length_le (by rw [Nat.add_mul];omega),List.nil_append,show (i+1)*e.sz - us.length=i*e.sz by rw [Nat.add_mul];omega]
     exact h7 i (by simpa using hi)
   ·cases h
  ·cases h
theorem decU_rep:∀ (u:Ty) (l:List Value) (x:u.D) (r:List Value),decU u l=some (x,r)->∃ us,l=us++r/\rep F w u x us:=by
 intro u
 induction u with
 |int k=>
  intro l x r h
  simp only [decU] at h
  split at h
  ·split at h
   ·rename_i hk
    cases h
    obtain ⟨rfl,hk⟩:=hk
    exact ⟨[_],rfl,by simp only [rep];rw [toI_ofI _ _ hk]⟩
   ·cases h
  ·cases h
 |bool=>
  intro l x r h
  simp only [decU] at h
  split at h
  ·cases h;exact ⟨[_],rfl,by simp only [rep]⟩
  ·cases h
 |str=>
  intro l x r h
  simp only [decU] at h
  split at h
  ·cases h;exact ⟨[_],rfl,by simp only [rep]⟩
  ·cases h
 |sl e ih=>
  intro l x r h
  simp only [decU] at h
  split at h
  ·cases h;exact ⟨[_],rfl,by simp only [rep];exact ⟨none,0,rfl,Nat.le_refl _,.inl rfl⟩⟩
  ·cases h
 |un=>intro l x r h;simp only [decU] at h;cases h;exact ⟨[],rfl,by simp [rep]⟩
 |pr a b iha ihb=>
  intro l x r h
  simp only [decU] at h
  split at h
  ·rename_i y r1 h1
   split at h
   ·rename_i z r2 h2
    cases h
    obtain ⟨us,rfl,h3⟩:=iha _ _ _ h1
    obtain ⟨ws,rfl,h4⟩:=ihb _ _ _ h2
    exact ⟨us++ws,by simp,by simp only [rep];exact ⟨us,ws,rfl,h3,h4⟩⟩
   ·cases h
  ·cases h
 |ar n e ih=>intro l x r h;simp only [decU] at h;exact decN_rep ih n l x r h
theorem zeroFields_rel {f:TypeId->List Value->Option (List AV×List Value)} (hf:∀ T l as r,f T l=some (as,r)->∃ us,l=us++r/\RelCs F w β as us) :
  ∀ (fs:List Field) (l:List Value) (as:List AV) (r:List Value),zeroFields f fs l=some (as,r)->∃ us,l=us++r/\RelCs F w β as us
 | [],l,as,r,h=>by simp only [zeroFields] at h;cases h;exact ⟨[],rfl,.nil⟩
 |x::fs,l,as,r,h=>by
  simp only [zeroFields] at h
  split at h
  ·rename_i a r1 h1
   split at h
   ·rename_i b r2 h2
    cases h
    obtain ⟨us,rfl,h3⟩:=hf _ _ _ _ h1
    obtain ⟨ws,rfl,h4⟩:=zeroFields_rel hf fs _ _ _ h2
    exact ⟨us++ws,by simp,h3.append h4⟩
   ·cases h
  ·cases h
theorem litL_rel:∀ (d:Nat) (T:TypeId) (l:List Value) (as:List AV) (r:List Value),litL P d T l=some (as,r)->∃ us,l=us++r/\RelCs F w β as us
 |0,_,_,_,_,h=>by cases h
 |d+1,T,l,as,r,h=>by
  have one:∀ {u:Ty},(decU u l).map (fun p=>([AV.dat u p.1],p.2))=some (as,r)->∃ us,l=us++r/\RelCs F w β as us:=by
   intro u h
   cases hd:decU u l with
   |none=>rw [hd] at h;cases h
   |some p=>
    rw [hd] at h;cases h
    obtain ⟨us,h1,h2⟩:=decU_rep (F:=F) (w:=w) u l p.1 p.2 hd
    refine ⟨us,h1,?_⟩
    rw [←List.append_nil us]
    exact .cons _ _ _ _ (.dat _ _ _ h2) (rep_len _ _ _ h2) .nil
  unfold litL at h
  split at h
  ·cases h;exact ⟨[_],rfl,.cons _ _ [_] [] .nilS rfl .nil⟩
  ·cases h;exact ⟨[_],rfl,.cons _ _ [_] [] .nilP rfl .nil⟩
  ·cases h;exact ⟨[_],rfl,.cons _ _ [_] [] .nilF rfl .nil⟩
  ·split at h
   ·rename_i t _
    split at h
    ·rename_i x r1 hd
     cases h
     obtain ⟨us,h1,h2⟩:=decU_rep (F:=F) (w:=w) (.ar _ t) _ _ _ hd
     refine ⟨us,h1,?_⟩
     rw [←List.append_nil us]
     exact .cons _ _ _ _ (.dat _ _ _ h2) (rep_len _ _ _ h2) .nil
    ·cases h
   ·cases h
  ·exact zeroFields_rel (fun T l as r h=>litL_rel d T l as r h) _ _ _ _ h
  ·exact one h
  ·exact one h
  ·exact one h
  ·cases h
theorem zero_run {T:TypeId} {z:Value} (h:zeroOf P T=some z):(zeroValue T).run P w=.ok z w/\∃ i,P.info? T=some i/\i.zero=some z:=by
 unfold zeroOf at h
 split at h
 ·rename_i i hi
  exact ⟨by simp [zeroValue,typeInfo,hi,h],i,hi,h⟩
 ·cases h
theorem zeroL_rel {T:TypeId} {ls:List AV} (h:zeroL P T=some ls):∃ z,zeroOf P T=some z/\RelCs F w β ls z.cells.toList:=by
 unfold zeroL at h
 split at h
 ·rename_i z hz
  split at h
  ·rename_i l hl
   cases h
   obtain ⟨us,h1,h2⟩:=litL_rel (F:=F) (w:=w) (β:=β) _ _ _ _ _ hl
   rw [List.append_nil] at h1
   exact ⟨z,hz,by rw [h1];exact h2⟩
  ·cases h
 ·cases h
theorem zeroD_rep {T:TypeId} {u:Ty} {x:u.D} (h:zeroD P T u=some x):∃ z,zeroOf P T=some z/\rep F w u x z.cells.toList:=by
 unfold zeroD at h
 split at h
 ·rename_i z hz
  split at h
  ·rename_i y hl
   cases h
   obtain ⟨us,h1,h2⟩:=decU_rep (F:=F) (w:=w) _ _ _ _ hl
   rw [List.append_nil] at h1
   exact ⟨z,hz,by rw [h1];exact h2⟩
  ·cases h
 ·cases h
theorem newRow_run (T:TypeId) (cs:Array Value):(newRow T cs).run P w=.ok ⟨w.heap.size,0,none⟩ { w with heap:=w.heap.push (.cells cs T) }:=by
 simp [newRow,newObj,Sem.run,pure]
theorem cellsAt_push (T:TypeId) (cs:Array Value) (fz:Nat×Nat):cellsAt { w with heap:=w.heap.push (.cells cs T fz) } w.heap.size=some cs.toList:=by
 unfold cellsAt;simp
theorem frozen_push (T:TypeId) (cs:Array Value) (o:Nat):frz { w with heap:=w.heap.push (.cells cs T) } ⟨w.heap.size,o,none⟩=false:=by
 unfold frz;simp
theorem new_vars {X H} (g:Good X F w β H) {id0:Nat} (hid:β id0=none) {ls:List AV} {vs:List Value} (hr:RelCs F w β ls vs) (hf:flat ls=true) (T:TypeId) :
  ∃ c:Conc,Good X F { w with heap:=w.heap.push (.cells vs.toArray T) } (upd β id0 c) (H.set id0 (.vars ls))/\Ext F w β F { w with heap:=w.heap.push (.cells vs.toArray T) } (upd β id0 c) /\
   RelV F { w with heap:=w.heap.push (.cells vs.toArray T) } (upd β id0 c) (.ptr id0 ⟨0,[]⟩) (.pointer (some ⟨w.heap.size,0,none⟩)):=by
 refine ⟨⟨some w.heap.size,0,.vars (ls.map leafSh),none⟩,?_⟩
 have ex0:Ext F w β F { w with heap:=w.heap.push (.cells vs.toArray T) } (upd β id0 ⟨some w.heap.size,0,.vars (ls.map leafSh),none⟩):=
  ⟨fun b h=>⟨h,cellsAt_of_heap (heap_push_lt (g.fsz b h))⟩,fun j c' h=>by rw [upd_ne (fun e=>by rw [e,hid] at h;cases h)];exact h⟩
 obtain ⟨g',ex⟩:=g.new hid (o:=.cells vs.toArray T) (c:=⟨some w.heap.size,0,.vars (ls.map leafSh),none⟩) (blk:=.vars ls) rfl rfl (fun _ h=>h.elim)
  ⟨⟨rfl,hf⟩,_,rfl,⟨vs,by simpa using cellsAt_push T vs.toArray (0,0),hr.mono ex0⟩,fun o=>frozen_push T _ o⟩
 exact ⟨g',ex,.one _ _ rfl (.ptr _ _ _ _ 0 upd_self rfl rfl)⟩
theorem new_row {X H} (g:Good X F w β H) {id0:Nat} (hid:β id0=none) {t:Ty} {xs:List t.D} {vs rest:List Value} {cap:Nat} (hr:rep F w (.ar xs.length t) xs vs) (hcap:xs.length<=cap) (hlen:(vs++rest).length=cap*t.sz)
  (T:TypeId) (fz:Nat×Nat) (hfz:∀ o,o<cap*t.sz->¬ (fz.1<=o/\o<fz.2)) (hle:fz.1<=fz.2:=by first|exact Nat.le_refl _|(simp;done)|omega) :
  ∃ c:Conc,Good X F { w with heap:=w.heap.push (.cells (vs++rest).toArray T fz) } (upd β id0 c) (H.set id0 (.row t xs false))/\Ext F w β F { w with heap:=w.heap.push (.cells (vs++rest).toArray T fz) } (upd β id0 c) /\
   RelV F { w with heap:=w.heap.push (.cells (vs++rest).toArray T fz) } (upd β id0 c) (.full id0) (.slice (some ⟨w.heap.size,0,none⟩) xs.length cap):=by
 refine ⟨⟨some w.heap.size,cap,.row t xs.length,none⟩,?_⟩
 have ex0:Ext F w β F { w with heap:=w.heap.push (.cells (vs++rest).toArray T fz) } (upd β id0 ⟨some w.heap.size,cap,.row t xs.length,none⟩):=
  ⟨fun b h=>⟨h,cellsAt_of_heap (heap_push_lt (g.fsz b h))⟩,fun j c' h=>by rw [upd_ne (fun e=>by rw [e,hid] at h;cases h)];exact h⟩
 obtain ⟨h1,h2,h3⟩:=rep_ar_iff.1 hr
 obtain ⟨g',ex⟩:=g.new hid (o:=.cells (vs++rest).toArray T fz) (c:=⟨some w.heap.size,cap,.row t xs.length,none⟩) (blk:=.row t xs false) rfl rfl (fun _ h=>h.elim) (by
  refine ⟨rfl,hcap,(fun e=>by cases e),fun b hb=>?_⟩
  cases hb
  refine ⟨⟨vs++rest,by simpa using cellsAt_push T (vs++rest).toArray fz,hlen.symm,fun i hi=>?_⟩,(fun e=>by cases e),fun _ o ho=>?_⟩
  ·have hm:(i+1)*t.sz<=xs.length*t.sz:=Nat.mul_le_mul_right _ hi
   rw [Nat.add_mul] at hm
   rw [List.drop_append_of_le_length (by omega),List.take_append_of_le_length (by simp;omega)]
   exact rep_mono ex0.f _ _ _ (h3 i hi)
  ·have h8:=hfz o ho
   have h9:o<cap*t.sz:=ho
   unfold frz
   simp
   omega)
 exact ⟨g',ex,.one _ _ rfl (.full _ _ _ _ upd_self rfl hcap)⟩
end
end
section
section
variable {P:Program} {F:Nat->Prop} {w:World} {β:Nat->Option Conc}
theorem fill_fold:∀ (us:List Value) (k off:Nat) (cs:Array Value),off+k+us.length<=cs.size->((us.zipIdx k).foldl (fun cs (p:Value×Nat)=>cs.setIfInBounds (off+p.2) p.1) cs).toList=splice cs.toList (off+k) us
 | [],k,off,cs,h=>by simp [splice]
 |v::us,k,off,cs,h=>by
  simp only [List.length_cons] at h
  rw [List.zipIdx_cons,List.foldl_cons,fill_fold us (k+1) off _ (by simp;omega)]
  apply List.ext_getElem?
  intro j
  rw [splice_get _ _ _ (by simp;omega),splice_get _ _ _ (by simp;omega)]
  simp only [List.length_cons,Array.toList_setIfInBounds]
  by_cases c1:j<off+k
  ·rw [if_pos (show j<off+(k+1) by omega),if_pos c1,List.getElem?_set_ne (by omega)]
  ·rw [if_neg c1]
   by_cases c2:j=off+k
   ·subst c2
    rw [if_pos (show off+k<off+(k+1) by omega),if_pos (by omega),List.getElem?_set_self (by simp;omega)]
    simp
   ·rw [if_neg (show ¬ j<off+(k+1) by omega)]
    by_cases c3:j<off+(k+1)+us.length
    ·rw [if_pos c3,if_pos (by omega),show j - (off+k)=(j - (off+(k+1)))+1 by omega,List.getElem?_cons_succ]
    ·rw [if_neg c3,if_neg (by omega),List.getElem?_set_ne (by omega)]
theorem fill_step {place:Nat->Option (Nat×Nat)} {cs:Array Value} {i off size:Nat} {v:Value} {rest:List (Nat×Value)} (hp:place i=some (off,size)) (hv:v.cells.size=size) (hle:off+size<=cs.size) :
  ∃ cs',cs'.toList=splice cs.toList off v.cells.toList/\Instr.fill place cs ((i,v)::rest)=Instr.fill place cs' rest:=by
 refine ⟨v.cells.zipIdx.foldl (fun cs (c,j)=>cs.setIfInBounds (off+j) c) cs,?_,?_⟩
 ·rw [←Array.foldl_toList,Array.toList_zipIdx]
  have:=fill_fold v.cells.toList 0 off cs (by simp;omega)
  rw [Nat.add_zero] at this
  exact this
 ·simp only [Instr.fill,hp]
  rw [if_neg]
  simp [hv];omega
def RelParts (F:Nat->Prop) (w:World) (β:Nat->Option Conc):List (Nat×AV)->List (Nat×Value)->Prop
 | [],[]=>True
 |(i,a)::l,(j,v)::l'=>i=j/\RelV F w β a v/\RelParts F w β l l'
 |_,_=>False
theorem setParts_fill {S:TypeId} {fs:Array Field} (hS:P.underlying S=some (.struct fs)) {places:List (Nat×Nat)} (hp:∀ (i:Nat) (fd:Field),fs[i]?=some fd->places[i]?=some (fd.offset,P.cellsOf fd.type)) :
  ∀ (ps:List (Nat×AV)) (qs:List (Nat×Value)) (cs cs':List AV) (vs:Array Value),RelParts F w β ps qs->setParts P S ps cs=some cs'->RelCs F w β cs vs.toList ->
  ∃ arr,Instr.fill (places.toArray[·]?) vs qs=some arr/\RelCs F w β cs' arr.toList
 | [],[],cs,cs',vs,_,h,hr=>by simp only [setParts] at h;cases h;exact ⟨vs,rfl,hr⟩
 |(i,a)::ps,(j,v)::qs,cs,cs',vs,hpq,h,hr=>by
  obtain ⟨rfl,ha,hpq⟩:=hpq
  simp only [setParts] at h
  cases h1:setPart P S cs i a with
  |none=>rw [h1] at h;cases h
  |some cs1=>
   rw [h1] at h
   simp only [zb] at h
   unfold setPart at h1
   split at h1
   ·rename_i fd hfd
    obtain ⟨fs',hS',hfs⟩:=fieldOf_some hfd
    rw [hS] at hS';cases hS'
    split at h1
    ·rename_i hsz
     have hval:=ha.leaves' (isVal_of_cells hsz.1 hsz.2)
     have hvlen:v.cells.toList.length=P.cellsOf fd.type:=by rw [hval.len];exact hsz.1
     obtain ⟨h2,h3⟩:=putL_rel _ _ _ _ _ _ _ h1 hr hval hvlen
     obtain ⟨arr1,h4,h5⟩:=fill_step (place:=(places.toArray[·]?)) (cs:=vs) (rest:=qs) (i:=i) (v:=v) (by simpa using hp i fd hfs) (by simpa using hvlen) (by simpa using h2)
     rw [←h4] at h3
     obtain ⟨arr,h6,h7⟩:=setParts_fill hS hp ps qs cs1 cs' arr1 hpq h h3
     exact ⟨arr,by rw [h5];exact h6,h7⟩
    ·cases h1
   ·cases h1
 | [],_::_,_,_,_,hpq,_,_=>hpq.elim
 |_::_,[],_,_,_,hpq,_,_=>hpq.elim
theorem places_some:∀ (fs:List Field),(fs.all fun f=>(P.info? f.type).isSome)=true->∃ places,fs.mapM (fun f=>(P.info? f.type).map fun i=>(f.offset,i.size))=some places /\
  ∀ (i:Nat) (fd:Field),fs[i]?=some fd->places[i]?=some (fd.offset,P.cellsOf fd.type)
 | [],_=>⟨[],rfl,fun i fd h=>by simp at h⟩
 |f::fs,h=>by
  simp only [List.all_cons,Bool.and_eq_true] at h
  obtain ⟨places,h1,h2⟩:=places_some fs h.2
  cases hi:P.info? f.type with
  |none=>rw [hi] at h;simp at h
  |some inf=>
   refine ⟨(f.offset,inf.size)::places,?_,fun i fd hf=>?_⟩
   ·simp [List.mapM_cons,hi,h1]
   ·cases i with
    |zero=>simp at hf;subst hf;simp [cellsOf_info hi]
    |succ i=>simp at hf ⊢;exact h2 i fd hf
theorem setElems_fill {X H} (g:Good X F w β H) {t:Ty} {n:Nat}:∀ (ps:List (Nat×AV)) (qs:List (Nat×Value)) (xs ys:List t.D) (vs:Array Value),RelParts F w β ps qs->setElems H t ps xs=some ys ->
  rep F w (.ar n t) xs vs.toList->(∀ p∈ps,RowsF F β H p.2.leaves)->(∀ p∈ps,p.1<n)->∃ arr,Instr.fill (fun i=>some (i*t.sz,t.sz)) vs qs=some arr/\rep F w (.ar n t) ys arr.toList
 | [],[],xs,ys,vs,_,h,hr,_,_=>by simp only [setElems] at h;cases h;exact ⟨vs,rfl,hr⟩
 |(i,a)::ps,(j,v)::qs,xs,ys,vs,hpq,h,hr,hF,hn=>by
  obtain ⟨rfl,ha,hpq⟩:=hpq
  simp only [setElems] at h
  cases h1:pack H true t a with
  |none=>rw [h1] at h;cases h
  |some x=>
   rw [h1] at h
   simp only [zb] at h
   have h2:=pack_rep g h1 ha (fun _=>hF (i,a) (List.mem_cons_self ..))
   have hlen:=rep_len _ _ _ h2
   have hi:i<n:=hn (i,a) (List.mem_cons_self ..)
   have h3:=ar_set hr hi h2
   obtain ⟨_,h4,_⟩:=rep_ar_iff.1 hr
   have hm:(i+1)*t.sz<=n*t.sz:=Nat.mul_le_mul_right _ hi
   rw [Nat.add_mul] at hm
   obtain ⟨arr1,h5,h6⟩:=fill_step (place:=fun i=>some (i*t.sz,t.sz)) (cs:=vs) (rest:=qs) (i:=i) (v:=v) rfl (by simpa using hlen) (by simp at h4;omega)
   rw [←h5] at h3
   obtain ⟨arr,h7,h8⟩:=setElems_fill g ps qs _ ys arr1 hpq h h3 (fun p hp=>hF p (List.mem_cons_of_mem _ hp)) (fun p hp=>hn p (List.mem_cons_of_mem _ hp))
   exact ⟨arr,by rw [h6];exact h7,h8⟩
 | [],_::_,_,_,_,hpq,_,_,_,_=>hpq.elim
 |_::_,[],_,_,_,hpq,_,_,_,_=>hpq.elim
theorem hasRow_none {H:Heap}:∀ {l:List AV},hasRow l=false->RowsF F β H l
 | [],_=>fun id h=>by rcases h with h|⟨_,_,_,h⟩<;>cases h
 |a::l,h=>by
  have hl:hasRow l=false/\(∀ id,a≠.full id)/\∀ id off lo hi,a≠.sub id off lo hi:=by
   cases a<;>simp_all [hasRow]
  intro id hid
  rcases hid with hid|⟨off,lo,hi,hid⟩
  ·rcases List.mem_cons.1 hid with e|e
   ·exact absurd e.symm (hl.2.1 id)
   ·exact hasRow_none hl.1 id (.inl e)
  ·rcases List.mem_cons.1 hid with e|e
   ·exact absurd e.symm (hl.2.2 id off lo hi)
   ·exact hasRow_none hl.1 id (.inr ⟨off,lo,hi,e⟩)
theorem sim_build {X H} (g:Good X F w β H) {T:TypeId} {ps:List (Nat×AV)} {v:AV} (h:exBuild P H T ps=some v) {qs:Array (Nat×Value)} (hpq:RelParts F w β ps qs.toList) :
  ∃ r,(Instr.build T qs).run P w=.ok r w/\RelV F w β v r:=by
 unfold exBuild at h
 split at h
 ·rename_i fs hT
  split at h
  ·rename_i hall
   cases hz:zeroL P T with
   |none=>rw [hz] at h;cases h
   |some z=>
    rw [hz] at h
    simp only [zb] at h
    cases hs:setParts P T ps z with
    |none=>rw [hs] at h;cases h
    |some cs=>
     rw [hs] at h;cases h
     obtain ⟨zv,hzv,hzr⟩:=zeroL_rel (F:=F) (w:=w) (β:=β) hz
     obtain ⟨_,i,hi,hiz⟩:=zero_run (w:=w) hzv
     obtain ⟨places,hp1,hp2⟩:=places_some fs.toList hall
     obtain ⟨arr,h1,h2⟩:=setParts_fill hT (fun i fd hf=>hp2 i fd (by simpa using hf)) ps qs.toList z cs zv.cells hpq hs hzr
     refine ⟨.agg arr,run_build w T qs arr ?_,?_⟩
     ·unfold Program.built
      rw [hi,hT]
      simp only [hiz,hp1]
      exact h1
     ·have:=RelV.many (F:=F) (w:=w) (β:=β) (.agg cs) arr.toList rfl (.agg _ _ h2)
      simpa using this
  ·cases h
 ·rename_i n e hT
  cases ht:tyC P e with
  |none=>rw [ht] at h;cases h
  |some t=>
   rw [ht] at h
   simp only [zb] at h
   split at h
   ·cases h
   ·rename_i hrows
    cases hz:zeroD P T (.ar n t) with
    |none=>rw [hz] at h;cases h
    |some z=>
     rw [hz] at h
     simp only [zb] at h
     split at h
     ·rename_i hidx
      cases hs:setElems H t ps z with
      |none=>rw [hs] at h;cases h
      |some xs=>
       rw [hs] at h;cases h
       obtain ⟨zv,hzv,hzr⟩:=zeroD_rep (F:=F) (w:=w) hz
       obtain ⟨_,i,hi,hiz⟩:=zero_run (w:=w) hzv
       obtain ⟨_,⟨ie,hie⟩,hsz,_,_⟩:=tyC_some ht
       obtain ⟨arr,h1,h2⟩:=setElems_fill g ps qs.toList z xs zv.cells hpq hs hzr (fun p hp=>hasRow_none (by
        simp only [List.any_eq_true,not_exists,not_and,Bool.not_eq_true] at hrows
        exact hrows p hp)) (fun p hp=>by
        simp only [List.all_eq_true,decide_eq_true_eq] at hidx
        exact hidx p hp)
       refine ⟨.agg arr,run_build w T qs arr ?_,?_⟩
       ·unfold Program.built
        rw [hi,hT]
        simp only [hiz,hie]
        rw [←cellsOf_info hie,hsz]
        exact h1
       ·have:=RelV.many (F:=F) (w:=w) (β:=β) (.dat (.ar n t) xs) arr.toList rfl (.dat _ _ _ h2)
        simpa using this
     ·cases h
 ·cases h
end
end
section
section
variable {P:Program} {F:Nat->Prop} {w:World} {β:Nat->Option Conc}
def Made (X:Cst) (F:Nat->Prop) (w:World) (β:Nat->Option Conc) (H':Heap) (id0:Nat) (a:AV) (r:Value) (w':World):Prop:=
 ∃ F' c,Good X F' w' (upd β id0 c) H'/\Ext F w β F' w' (upd β id0 c)/\RelV F' w' (upd β id0 c) a r
theorem sim_alloc {X H} (g:Good X F w β H) {id0:Nat} (hid:β id0=none) {T:TypeId} {ls:List AV} (h:zeroL P T=some ls) (hf:flat ls=true) (old:Value) :
  ∃ r w',(Instr.alloc T true old).run P w=.ok r w'/\Made X F w β (H.set id0 (.vars ls)) id0 (.ptr id0 ⟨0,[]⟩) r w':=by
 obtain ⟨z,hz,hr⟩:=zeroL_rel (F:=F) (w:=w) (β:=β) h
 obtain ⟨h1,_⟩:=zero_run (w:=w) hz
 obtain ⟨c,g',ex,rv⟩:=new_vars g hid hr hf T
 refine ⟨_,_,?_,F,c,g',ex,rv⟩
 unfold Instr.alloc
 simp only [Sem.run_bind,h1,Result.andThen_ok]
 simp only [newVar,Sem.run_bind,newRow_run,Result.andThen_ok,pure,Sem.run]
theorem sim_box {X H} (g:Good X F w β H) {id0:Nat} (hid:β id0=none) {T:TypeId} {a:AV} {v:Value} (ha:RelV F w β a v) (hv:isVal a=true) (hf:flat a.leaves=true) :
  ∃ r w',(Instr.box T v).run P w=.ok r w'/\Made X F w β (H.set id0 (.vars a.leaves)) id0 (.ptr id0 ⟨0,[]⟩) r w':=by
 obtain ⟨c,g',ex,rv⟩:=new_vars g hid (ha.leaves' hv) hf T
 refine ⟨_,_,?_,F,c,g',ex,rv⟩
 unfold Instr.box
 simp only [newVar,Sem.run_bind,newRow_run,Result.andThen_ok,pure,Sem.run]
theorem rep_zeros {t:Ty} {z:t.D} {zc:Array Value} (hz:rep F w t z zc.toList):∀ n:Nat,rep F w (.ar n t) (List.replicate n z) ((List.range (n*zc.size)).map fun i=>zc[i % zc.size]!):=by
 intro n
 have hs:zc.size=t.sz:=by have:=rep_len _ _ _ hz;simpa using this
 rw [rep_ar_iff]
 refine ⟨by simp,by simp [hs],fun i hi=>?_⟩
 simp only [List.length_replicate] at hi
 rw [List.getElem_replicate]
 have hseg:((List.range (n*zc.size)).map fun i=>zc[i % zc.size]!).drop (i*t.sz)=((List.range (n*zc.size)).drop (i*t.sz)).map fun i=>zc[i % zc.size]!:=by rw [List.map_drop]
 have:(((List.range (n*zc.size)).map fun i=>zc[i % zc.size]!).drop (i*t.sz)).take t.sz=zc.toList:=by
  apply List.ext_getElem?
  intro j
  rw [seg_get]
  have hm:(i+1)*t.sz<=n*t.sz:=Nat.mul_le_mul_right _ hi
  rw [Nat.add_mul] at hm
  by_cases hj:j<t.sz
  ·rw [if_pos hj]
   rw [List.getElem?_map,List.getElem?_range (by rw [hs];omega)]
   have e:(i*t.sz+j) % zc.size=j:=by
    rw [hs,Nat.mul_comm,Nat.mul_add_mod];exact Nat.mod_eq_of_lt hj
   simp only [Option.map_some,e]
   have hj':j<zc.size:=by omega
   simp [hj',Array.getElem?_eq_getElem]
  ·rw [if_neg hj,List.getElem?_eq_none (by simp;omega)]
 rw [this]
 exact hz
theorem elemTy_some {T e:TypeId} {t:Ty} (h:elemTy P T=some (e,t)):P.underlying T=some (.slice e)/\tyC P e=some t:=by
 unfold elemTy at h
 split at h
 ·rename_i e' hT
  cases hc:tyC P e' with
  |none=>rw [hc] at h;cases h
  |some q=>rw [hc] at h;cases h;exact ⟨hT,hc⟩
 ·cases h
theorem sim_makeSlice {X H} (g:Good X F w β H) {id0:Nat} (hid:β id0=none) {T e:TypeId} {t:Ty} (hT:elemTy P T=some (e,t)) {z:t.D} (hz:zeroD P e t=some z) {i j:IntKind} {x y:Int}
  (h0:0<=x) (h1:x<=y) (h2:y.toNat*P.bytesOf e<=maxBytes) (hb0:P.bytesOf e≠0) :
  ∃ r w',(Instr.makeSlice T (.int i x) (.int j y)).run P w=.ok r w'/\Made X F w β (H.set id0 (.row t (List.replicate x.toNat z) false)) id0 (.full id0) r w':=by
 obtain ⟨hT1,hT2⟩:=elemTy_some hT
 obtain ⟨_,⟨inf,hinf⟩,hsz,_,_⟩:=tyC_some hT2
 obtain ⟨zv,hzv,hzr⟩:=zeroD_rep (F:=F) (w:=w) hz
 obtain ⟨hz1,_⟩:=zero_run (w:=w) hzv
 have hzs:zv.cells.size=t.sz:=by have:=rep_len _ _ _ hzr;simpa using this
 have hbytes:P.bytesOf e=inf.bytes:=by simp [Program.bytesOf,hinf]
 have hy:y<=9223372036854775807:=by
  have:y.toNat*1<=y.toNat*P.bytesOf e:=Nat.mul_le_mul_left _ (by omega)
  unfold maxBytes at h2;omega
 have hwx:IntKind.i64.wrap x=x:=by simp [IntKind.wrap,IntKind.signed,IntKind.bits];omega
 have hwy:IntKind.i64.wrap y=y:=by simp [IntKind.wrap,IntKind.signed,IntKind.bits];omega
 have hrz:=rep_zeros (F:=F) (w:=w) hzr x.toNat
 have hcells:∃ rest,((Array.range (y.toNat*t.sz)).map fun i=>zv.cells[i % zv.cells.size]!)=(((List.range (x.toNat*zv.cells.size)).map fun i=>zv.cells[i % zv.cells.size]!)++rest).toArray:=by
  refine ⟨((List.range (y.toNat*t.sz)).map fun i=>zv.cells[i % zv.cells.size]!).drop (x.toNat*t.sz),?_⟩
  apply Array.ext'
  rw [Array.toList_map,Array.toList_range]
  rw [show x.toNat*zv.cells.size=x.toNat*t.sz by rw [hzs]]
  have hm:x.toNat*t.sz<=y.toNat*t.sz:=Nat.mul_le_mul_right _ (by omega)
  have:(List.range (x.toNat*t.sz)).map (fun i=>zv.cells[i % zv.cells.size]!)=((List.range (y.toNat*t.sz)).map fun i=>zv.cells[i % zv.cells.size]!).take (x.toNat*t.sz):=by
   rw [←List.map_take,List.take_range,Nat.min_eq_left hm]
  rw [this];simp
 obtain ⟨rest,hrest⟩:=hcells
 obtain ⟨c,g',ex,rv⟩:=new_row g hid (t:=t) (xs:=List.replicate x.toNat z) (cap:=y.toNat) (rest:=rest) (by rw [List.length_replicate];exact hrz) (by simp;omega) (by
  have:=congrArg Array.size hrest
  simp only [Array.size_map,Array.size_range,List.size_toArray] at this
  exact this.symm) e (0,0) (fun o _=>by simp)
 refine ⟨.slice (some ⟨w.heap.size,0,none⟩) x.toNat y.toNat,_,?_,F,c,g',ex,by simpa using rv⟩
 unfold Instr.makeSlice
 have hti:(typeInfo e).run P w=.ok inf w:=by simp [typeInfo,hinf]
 simp only [Sem.run_bind,und hT1,Result.andThen_ok,asInt,asIntOf,pure,Sem.run,hti,hwx,hwy]
 have hle:(inf.bytes:Int)*y<=140737488355328:=by
  rw [hbytes] at h2
  unfold maxBytes at h2
  have h3:((y.toNat*inf.bytes:Nat):Int)<=((140737488355328:Nat):Int):=Int.ofNat_le.mpr h2
  rw [Int.natCast_mul,Int.toNat_of_nonneg (by omega),Int.mul_comm] at h3
  generalize (inf.bytes:Int)*y=q at h3 ⊢
  omega
 have h48:(2:Int) ^ 48=281474976710656:=rfl
 have a1:decide (y<0)=false:=zF (by omega)
 have a2:decide ((inf.bytes:Int)*y>2 ^ 48)=false:=zF (by rw [h48];omega)
 have a3:decide (x<0)=false:=zF (by omega)
 have a4:decide (x>y)=false:=zF (by omega)
 rw [if_neg (by rw [a1,a2,a3,a4];simp)]
 simp only [askRoom]
 have hroom:¬ (y.toNat*inf.bytes>roomBytes):=by rw [hbytes] at h2;unfold maxBytes at h2;unfold roomBytes;omega
 rw [if_neg hroom]
 simp only [pure,Sem.run_bind,Sem.run,Result.andThen_ok,sizeOf_run hinf,hsz]
 by_cases hn:y.toNat*t.sz=0
 ·rw [if_pos hn]
  simp only [pure,Sem.run,Result.andThen_ok,Sem.run_bind,newRow_run]
  rw [hn] at hrest ⊢
  have e0:((Array.range 0).map fun i=>(#[]:Array Value)[i % (#[]:Array Value).size]!)=((Array.range 0).map fun i=>zv.cells[i % zv.cells.size]!):=by simp
  rw [e0,hrest]
 ·rw [if_neg hn]
  simp only [pure,Sem.run,Result.andThen_ok,Sem.run_bind,hz1,newRow_run]
  rw [hrest]
end
end
section
section
variable {P:Program} {F:Nat->Prop} {w:World} {β:Nat->Option Conc}
theorem Good.kill {X H} (g:Good X F w β H) (id:Nat):Good X F w β (H.set id .dead):=by
 have ow:∀ {j c b},Owned w c ((H.set id .dead) j) b->j≠id/\Owned w c (H j) b:=fun {j c b} h=>by
  by_cases e:j=id
  ·subst e;rw [zJ] at h;cases h.1
  ·rw [zH e] at h;exact ⟨e,h⟩
 refine ⟨fun j c h=>?_,fun j c b h1 h2=>g.own' j c b h1 (ow h2).2,fun j j' c1 c2 b h1 h2 h3 h4=>g.uniq' j j' c1 c2 b h1 h2 (ow h3).2 (ow h4).2,g.fsz,g.fext,g.fmono,g.frame,g.gsz,g.size,g.tame⟩
 by_cases e:j=id
 ·subst e;exact ⟨.dead,zJ,trivial⟩
 ·obtain ⟨blk,h1,h2⟩:=g.hr j c h
  exact ⟨blk,by rw [zH e];exact h1,h2⟩
theorem Good.emptyB {X H} (g:Good X F w β H) {id0:Nat} (hid:β id0=none) (t:Ty) (A:Option Addr) {blk:Blk} (hblk:blk=.row t [] false\/(deepK t=true/\blk=.deep t [] none)) :
  Good X F w (upd β id0 ⟨none,0,.row t 0,A⟩) (H.set id0 blk)/\Ext F w β F w (upd β id0 ⟨none,0,.row t 0,A⟩)/\RelV F w (upd β id0 ⟨none,0,.row t 0,A⟩) (.full id0) (.slice A 0 0):=by
 have ex:Ext F w β F w (upd β id0 ⟨none,0,.row t 0,A⟩):=⟨fun b h=>⟨h,rfl⟩,fun j c' h=>by rw [upd_ne (fun e=>by rw [e,hid] at h;cases h)];exact h⟩
 have no:∀ {b},¬ Owned w ⟨none,0,.row t 0,A⟩ (some blk) b:=fun {b} h=>by
  rcases h.2 with h|h
  ·cases h
  ·rcases hblk with rfl|⟨_,rfl⟩
   ·exact h.elim
   ·obtain ⟨b0,l,k,n,cap,h,_⟩:=h;cases h
 refine ⟨⟨fun j c h=>?_,fun j c b h1 h2=>?_,fun j j' c1 c2 b h1 h2 h3 h4=>?_,g.fsz,g.fext,g.fmono,g.frame,g.gsz,g.size,g.tame⟩,ex,.one _ _ rfl (.full _ ⟨none,0,.row t 0,A⟩ _ _ upd_self rfl (Nat.le_refl _))⟩
 ·by_cases e:j=id0
  ·subst e;rw [upd_self] at h;cases h
   refine ⟨_,zJ,?_⟩
   rcases hblk with rfl|⟨hk,rfl⟩
   ·exact ⟨rfl,Nat.le_refl _,fun _=>⟨rfl,rfl⟩,fun b hb=>by cases hb⟩
   ·exact ⟨hk,rfl,Nat.le_refl _,fun _=>⟨rfl,rfl,rfl⟩,(fun _ _ _ h=>by cases h),fun b hb=>by cases hb⟩
  ·rw [upd_ne e] at h
   obtain ⟨blk,h1,h2⟩:=g.hr j c h
   exact ⟨blk,by rw [zH e];exact h1,h2.mono ex fun _ _=>rfl⟩
 ·by_cases e:j=id0
  ·subst e;rw [upd_self] at h1;cases h1;rw [zJ] at h2;exact (no h2).elim
  ·rw [upd_ne e] at h1;rw [zH e] at h2;exact g.own' j c b h1 h2
 ·by_cases e:j=id0
  ·subst e;rw [upd_self] at h1;cases h1;rw [zJ] at h3;exact (no h3).elim
  ·by_cases e':j'=id0
   ·subst e';rw [upd_self] at h2;cases h2;rw [zJ] at h4;exact (no h4).elim
   ·rw [upd_ne e] at h1;rw [upd_ne e'] at h2;rw [zH e] at h3;rw [zH e'] at h4
    exact g.uniq' j j' c1 c2 b h1 h2 h3 h4
theorem Good.nilRow {X H} (g:Good X F w β H) {id0:Nat} (hid:β id0=none) (t:Ty) :
  Good X F w (upd β id0 ⟨none,0,.row t 0,none⟩) (H.set id0 (.row t [] false))/\Ext F w β F w (upd β id0 ⟨none,0,.row t 0,none⟩)/\RelV F w (upd β id0 ⟨none,0,.row t 0,none⟩) (.full id0) (.slice none 0 0):=
 g.emptyB hid t none (.inl rfl)
theorem Good.change {X H} (g:Good X F w β H) {β':Nat->Option Conc} {H':Heap} {w':World} (S:Nat->Prop) (hβ:∀ id c,β id=some c->β' id=some c) (hβn:∀ id,¬ S id->β' id=β id) (hH:∀ id,¬ S id->H' id=H id)
  (hsz:w.heap.size<=w'.heap.size) (eo:w'.os=w.os/\w'.output=w.output)
  (hw:∀ b,b<w.heap.size->(∀ id c,S id->β id=some c->¬ Owned w c (H id) b)->w'.heap[b]?=w.heap[b]?)
  (hown:∀ id c b,S id->β' id=some c->Owned w' c (H' id) b->(∃ id1 c1,S id1/\β id1=some c1/\Owned w c1 (H id1) b)\/(w.heap.size<=b/\b<w'.heap.size))
  (huniq:∀ id id' c c' b,S id->S id'->β' id=some c->β' id'=some c'->Owned w' c (H' id) b->Owned w' c' (H' id') b->id=id')
  (hB:∀ id c,S id->β' id=some c->Ext F w β F w' β'->∃ blk,H' id=some blk/\BRel F w' β' c blk) :
  Good X F w' β' H'/\Ext F w β F w' β':=by
 have ex:Ext F w β F w' β':=⟨fun b h=>⟨h,cellsAt_of_heap (hw b (g.fsz b h) fun id c _ hc ho=>(g.own' id c b hc ho).1 h)⟩,hβ⟩
 have stay:∀ {j c b},¬ S j->β j=some c->H j≠some .dead->Touch w c (H j) b->w'.heap[b]?=w.heap[b]?:=fun {j c b} hn hj hd ht=>
  hw b (g.touchHeap hj hd ht) fun id c1 hS hc1 ho=>g.apart hc1 ho hj (fun e=>hn (e▸hS)) hd ht
 have ow:∀ {j c b},¬ S j->β' j=some c->Owned w' c (H' j) b->β j=some c/\Owned w c (H j) b:=fun {j c b} hn hj ho=>by
  rw [hβn j hn] at hj
  rw [hH j hn] at ho
  have hd:H j≠some .dead:=fun hd=>by have:=ho.1;rw [hd] at this;cases this
  exact ⟨hj,ho.congr fun b0 hb0=>cellsAt_of_heap (stay hn hj hd (.inl hb0))⟩
 refine ⟨⟨fun j c h=>?_,fun j c b h1 h2=>?_,fun j j' c1 c2 b h1 h2 h3 h4=>?_,fun b h=>Nat.lt_of_lt_of_le (g.fsz b h) hsz,g.fext,g.fmono,fun b h=>?_,g.gsz,Nat.le_trans g.size hsz,⟨eo.1.trans g.tame.1,eo.2.trans g.tame.2⟩⟩,ex⟩
 ·by_cases hS:S j
  ·exact hB j c hS h ex
  ·rw [hβn j hS] at h
   obtain ⟨blk,h1,h2⟩:=g.hr j c h
   refine ⟨blk,(hH j hS).trans h1,?_⟩
   by_cases hd:blk=.dead
   ·subst hd;trivial
   ·exact h2.mono ex fun b hb=>stay hS h (by rw [h1];intro e;cases e;exact hd rfl) (by rw [h1];exact hb)
 ·by_cases hS:S j
  ·rcases hown j c b hS h1 h2 with ⟨id1,c1,_,hc1,ho1⟩|⟨f1,f2⟩
   ·obtain ⟨a1,a2,a3⟩:=g.own' id1 c1 b hc1 ho1
    exact ⟨a1,a2,Nat.lt_of_lt_of_le a3 hsz⟩
   ·refine ⟨fun h=>?_,fun h=>?_,f2⟩
    ·have:=g.fsz b h;omega
    ·have:=g.gsz b h;have:=g.size;omega
  ·obtain ⟨h3,h4⟩:=ow hS h1 h2
   obtain ⟨a1,a2,a3⟩:=g.own' j c b h3 h4
   exact ⟨a1,a2,Nat.lt_of_lt_of_le a3 hsz⟩
 ·have mixed:∀ {j j' c1 c2},S j->¬ S j'->β' j=some c1->β' j'=some c2->Owned w' c1 (H' j) b->Owned w' c2 (H' j') b->False:=fun {j j' c1 c2} hS hn h1 h2 h3 h4=>by
   obtain ⟨h5,h6⟩:=ow hn h2 h4
   rcases hown j c1 b hS h1 h3 with ⟨id1,c3,hS1,hc3,ho3⟩|⟨f1,f2⟩
   ·exact hn ((g.uniq' id1 j' c3 c2 b hc3 h5 ho3 h6)▸hS1)
   ·have:=(g.own' j' c2 b h5 h6).2.2;omega
  by_cases hS:S j
  ·by_cases hS':S j'
   ·exact huniq j j' c1 c2 b hS hS' h1 h2 h3 h4
   ·exact (mixed hS hS' h1 h2 h3 h4).elim
  ·by_cases hS':S j'
   ·exact (mixed hS' hS h2 h1 h4 h3).elim
   ·obtain ⟨h5,h6⟩:=ow hS h1 h3
    obtain ⟨h7,h8⟩:=ow hS' h2 h4
    exact g.uniq' j j' c1 c2 b h5 h7 h6 h8
 ·refine (hw b ?_ fun id c _ hc ho=>(g.own' id c b hc ho).2.1 h).trans (g.frame b h)
  have:=g.gsz b h;have:=g.size;omega
theorem Good.moveRow {X H} (g:Good X F w β H) {id id0:Nat} (hid0:β id0=none) {c c':Conc} (hid:β id=some c) (hown:ownB (H id)=true) (hb:c'.b=c.b) {w':World}
  (hw:∀ b',c.b≠some b'->w'.heap[b']?=w.heap[b']?) (hsz:w'.heap.size=w.heap.size) (eo:w'.os=w.os/\w'.output=w.output) {t:Ty} {ys:List t.D} (hB:Ext F w β F w' (upd β id0 c')->BRel F w' (upd β id0 c') c' (.row t ys false)) :
  Good X F w' (upd β id0 c') ((H.set id .dead).set id0 (.row t ys false))/\Ext F w β F w' (upd β id0 c'):=by
 have hne:id≠id0:=fun e=>by rw [e,hid0] at hid;cases hid
 have hdead:((H.set id .dead).set id0 (.row t ys false)) id=some .dead:=by rw [zH hne,zJ]
 have one:∀ {j c1 b},(j=id\/j=id0)->upd β id0 c' j=some c1->Owned w' c1 (((H.set id .dead).set id0 (.row t ys false)) j) b->j=id0/\c.b=some b:=fun {j c1 b} hS h1 h2=>by
  rcases hS with rfl|rfl
  ·rw [hdead] at h2;cases h2.1
  ·rw [upd_self] at h1;cases h1
   rw [zJ] at h2
   rcases h2.2 with h|h
   ·exact ⟨rfl,hb▸h⟩
   ·exact h.elim
 refine g.change (fun j=>j=id\/j=id0) (fun j c1 h=>?_) (fun j hj=>upd_ne fun e=>hj (.inr e)) (fun j hj=>by rw [zH (fun e=>hj (.inr e)),zH (fun e=>hj (.inl e))]) (by omega) eo
  (fun b _ hb'=>hw b fun e=>hb' id c (.inl rfl) hid ⟨hown,.inl e⟩) (fun j c1 b hS h1 h2=>.inl ⟨id,c,.inl rfl,hid,hown,.inl (one hS h1 h2).2⟩)
  (fun j j' c1 c2 b hS hS' h1 h2 h3 h4=>(one hS h1 h3).1.trans (one hS' h2 h4).1.symm) (fun j c1 hS h1 ex=>?_)
 ·rw [upd_ne (fun e=>by rw [e,hid0] at h;cases h)];exact h
 ·rcases hS with rfl|rfl
  ·exact ⟨_,hdead,trivial⟩
  ·rw [upd_self] at h1;cases h1
   exact ⟨_,zJ,hB ex⟩
theorem elems_at {X H} (g:Good X F w β H) {a:AV} {t:Ty} {xs:List t.D} (h:elemsOf H a=some ⟨t,xs⟩) {v:Value} (hr:RelC F w β a [v]) :
  ∃ A c,v=.slice A xs.length c/\xs.length<=c/\(xs.length=0\/∃ b off,A=some ⟨b,off,none⟩/\∃ l,cellsAt w b=some l/\off+xs.length*t.sz<=l.length/\rep F w (.ar xs.length t) xs ((l.drop off).take (xs.length*t.sz))):=by
 have key:rep F w (.sl t) xs [v]->∃ A c,v=.slice A xs.length c/\xs.length<=c/\(xs.length=0\/∃ b off,A=some ⟨b,off,none⟩/\∃ l,cellsAt w b=some l/\off+xs.length*t.sz<=l.length/\rep F w (.ar xs.length t) xs ((l.drop off).take (xs.length*t.sz))):=by
  intro h
  obtain ⟨A,c,h1,h2,h3|⟨b,off,h3,h4,h5⟩⟩:=slice_elem h
  ·exact ⟨A,c,h1,h2,.inl h3⟩
  ·refine ⟨A,c,h1,h2,?_⟩
   by_cases hz:xs.length=0
   ·exact .inl hz
   ·right
    obtain ⟨us0,⟨l,hl,_,_⟩,_⟩:=h5 0 (by omega)
    have hb:∀ i,i<xs.length->off+i*t.sz+t.sz<=l.length:=fun i hi=>by
     obtain ⟨us,⟨l',hl',hle,_⟩,_⟩:=h5 i hi
     rw [hl] at hl';cases hl';exact hle
    have hlast:=hb (xs.length - 1) (by omega)
    have hm:(xs.length - 1)*t.sz+t.sz=xs.length*t.sz:=by
     rw [←Nat.succ_mul];congr 1;omega
    refine ⟨b,off,h3,l,hl,by omega,rep_ar_iff.2 ⟨rfl,by simp;omega,fun i hi=>?_⟩⟩
    obtain ⟨us,⟨l',hl',hle,rfl⟩,hrep⟩:=h5 i hi
    rw [hl] at hl';cases hl'
    have hm2:(i+1)*t.sz<=xs.length*t.sz:=Nat.mul_le_mul_right _ hi
    rw [Nat.add_mul] at hm2
    rw [seg_seg _ (by omega)]
    exact hrep
 unfold elemsOf at h
 split at h
 ·cases h;cases hr with|dat _ _ _ h=>exact key h
 ·cases h;cases hr with|nz _ _ _ A n c h _=>exact key h
 ·rename_i id
  cases hr with
  |full _ c t' len hc hsh hle=>
  obtain ⟨h1,h2,h3⟩:=arrAt_rel g h hc
  have:len=xs.length:=by rw [hsh] at h1;simp [arrSh] at h1;omega
  subst this
  refine ⟨_,_,rfl,hle,?_⟩
  cases hb:c.b with
  |none=>left;rw [h3 hb];rfl
  |some b=>
   right
   obtain ⟨l,hl,hle2,hrep⟩:=h2 b hb
   exact ⟨b,0,Conc.adr_some hb,l,hl,hle2,hrep⟩
 ·rename_i id off lo hi
  split at h
  ·rename_i t' ys hA
   cases h
   cases hr with
   |sub _ _ _ _ c n t' A cap hc hsh h4 h5 h6 h7 h8=>
   obtain ⟨h1,h2,h3⟩:=arrAt_rel g hA hc
   rw [hsh] at h1;cases h1
   have hlen:(List.take (hi - lo).toNat (List.drop lo.toNat ys)).length=(hi - lo).toNat:=by simp;omega
   refine ⟨A,cap,by rw [hlen],by rw [hlen];exact h7,?_⟩
   rcases h8 with h8|⟨b,hb,rfl⟩
   ·left;rw [hlen];omega
   ·right
    obtain ⟨l,hl,hle2,hrep⟩:=h2 b hb
    obtain ⟨_,_,h9⟩:=rep_ar_iff.1 hrep
    have hmm:(lo.toNat+(hi - lo).toNat)*t.sz<=ys.length*t.sz:=Nat.mul_le_mul_right _ (by omega)
    rw [Nat.add_mul] at hmm
    refine ⟨b,off+lo.toNat*t.sz,rfl,l,hl,by rw [hlen];omega,rep_ar_iff.2 ⟨rfl,by rw [hlen];simp;omega,fun i hi'=>?_⟩⟩
    have hi'':i<(hi - lo).toNat:=by rw [←hlen];exact hi'
    have hlt:lo.toNat+i<ys.length:=by omega
    have hm:(lo.toNat+i+1)*t.sz<=ys.length*t.sz:=Nat.mul_le_mul_right _ hlt
    rw [Nat.add_mul,Nat.add_mul] at hm
    have hm3:(i+1)*t.sz<=(hi - lo).toNat*t.sz:=Nat.mul_le_mul_right _ hi''
    rw [Nat.add_mul] at hm3
    have:=h9 (lo.toNat+i) hlt
    rw [Nat.add_mul,seg_seg _ (by omega),←Nat.add_assoc] at this
    rw [hlen,seg_seg _ (by omega)]
    have hg:(List.take (hi - lo).toNat (List.drop lo.toNat ys))[i]=ys[lo.toNat+i]:=by simp
    rw [hg]
    exact this
  ·cases h
 ·cases h
theorem rep_bytes (s:List UInt8):rep F w (.ar s.length (.int .u8)) s (s.map fun b=>.int .u8 (b.toNat:Int)):=by
 rw [rep_ar_iff]
 refine ⟨rfl,by simp [Ty.sz],fun i hi=>?_⟩
 simp only [rep,Ty.sz,Nat.mul_one]
 apply List.ext_getElem?
 intro j
 rw [seg_get]
 have hi':i<s.length:=hi
 cases j with
 |zero=>simp [hi',toI]
 |succ j=>rw [if_neg (by omega)];simp
theorem src_cells {X H} (g:Good X F w β H) {U:TypeId} {t:Ty} {b:AV} {ys:List t.D} (h:srcOf P U H t b=some ys) {v:Value} (hr:RelV F w β b v) :
  (∃ d,P.underlying U=some d/\(∀ k,d≠.int k))/\(Builtin.lenOf v).run P w=.ok ys.length w /\
  ∃ vs,rep F w (.ar ys.length t) ys vs/\∀ n,n<=ys.length->∀ w',w'.heap=w.heap->(Builtin.firstCells t.sz n v).run P w'=.ok (vs.take (n*t.sz)).toArray w':=by
 unfold srcOf at h
 split at h
 ·rename_i hU
  split at h
  ·rename_i s
   obtain ⟨e,he⟩:=castL_some h
   subst e
   have he':ys=s:=he
   subst he'
   rw [hr.str_inv]
   refine ⟨⟨_,hU,fun k e=>by cases e⟩,by simp [Builtin.lenOf,pure,Sem.run,ByteArray.size],_,rep_bytes ys,fun n hn w' _=>?_⟩
   simp only [Builtin.firstCells,pure,Sem.run,Ty.sz,Nat.mul_one]
   congr 1
   apply Array.ext'
   simp [ByteArray.data_extract,List.map_take]
  ·cases h
 ·rename_i e hU
  have hone:∀ {a:AV},isMany a=true->elemsOf H a=none:=by
   intro a ha
   cases a<;>simp [isMany] at ha<;>first|rfl|skip
   rename_i q x
   cases q<;>first|rfl|(simp [isMany] at ha)
  unfold asList at h
  split at h
  ·cases h
   rw [hr.nilS_inv]
   refine ⟨⟨_,hU,fun k e=>by cases e⟩,by simp [Builtin.lenOf,pure,Sem.run],[],by rw [rep_ar_iff];exact ⟨rfl,by simp,fun i hi=>by simp at hi⟩,fun n hn w' _=>by simp [Builtin.firstCells,pure,Sem.run]⟩
  ·split at h
   ·rename_i t' zs hE
    obtain ⟨e,he⟩:=castL_some h
    subst e
    have he':ys=zs:=he
    subst he'
    have hrc:RelC F w β b [v]:=by
     cases hr with
     |one _ _ _ h=>exact h
     |many _ _ hm _=>rw [hone hm] at hE;cases hE
     |tup=>cases hE
     |any=>cases hE
    obtain ⟨A,c,rfl,hc,hx⟩:=elems_at g hE hrc
    refine ⟨⟨_,hU,fun k e=>by cases e⟩,by simp [Builtin.lenOf,pure,Sem.run],?_⟩
    rcases hx with hx|⟨bb,off,rfl,l,hl,hle,hrep⟩
    ·have hnil:ys=[]:=List.eq_nil_of_length_eq_zero hx
     subst hnil
     refine ⟨[],by rw [rep_ar_iff];exact ⟨rfl,by simp,fun i hi=>by simp at hi⟩,fun n hn w' _=>?_⟩
     have:n=0:=by simpa using hn
     subst this
     cases A<;>simp [Builtin.firstCells,loadCells,loadCellsFrom,pure,Sem.run]
    ·refine ⟨_,hrep,fun n hn w' hw'=>?_⟩
     have hm:n*t'.sz<=ys.length*t'.sz:=Nat.mul_le_mul_right _ hn
     simp only [Builtin.firstCells]
     refine load_run ⟨l,?_,by omega,?_⟩
     ·unfold cellsAt at hl ⊢;rw [hw'];exact hl
     ·rw [List.take_take,Nat.min_eq_left hm]
   ·cases h
 ·cases h
end
end
section
section
variable {P:Program} {F:Nat->Prop} {w:World} {β:Nat->Option Conc}
def Left (X:Cst) (F:Nat->Prop) (w:World) (β:Nat->Option Conc) (H':Heap) (id0:Nat) (a:AV) (r:Value) (w':World):Prop:=
 ∃ F' β',Good X F' w' β' H'/\Ext F w β F' w' β'/\RelV F' w' β' a r/\∀ j,β' j≠none->β j≠none\/j=id0
theorem Made.left {X H' id0 a r w'} (h:Made X F w β H' id0 a r w'):Left X F w β H' id0 a r w':=by
 obtain ⟨F',c,h1,h2,h3⟩:=h
 refine ⟨F',_,h1,h2,h3,fun j hj=>?_⟩
 by_cases e:j=id0
 ·exact .inr e
 ·left;rw [upd_ne e] at hj;exact hj
theorem rep_ar_append {n m:Nat} {t:Ty} {xs ys:List t.D} {vs us:List Value} (h1:rep F w (.ar n t) xs vs) (h2:rep F w (.ar m t) ys us):rep F w (.ar (n+m) t) (xs++ys) (vs++us):=by
 rw [rep_ar_iff] at h1 h2 ⊢
 obtain ⟨a1,a2,a3⟩:=h1
 obtain ⟨b1,b2,b3⟩:=h2
 refine ⟨by simp [a1,b1],by simp [a2,b2,Nat.add_mul],fun i hi=>?_⟩
 by_cases hlt:i<xs.length
 ·have hm:(i+1)*t.sz<=n*t.sz:=Nat.mul_le_mul_right _ (by omega)
  rw [Nat.add_mul] at hm
  rw [List.getElem_append_left hlt,List.drop_append_of_le_length (by omega),List.take_append_of_le_length (by simp;omega)]
  exact a3 i hlt
 ·simp only [zL] at hi
  rw [List.getElem_append_right (by omega)]
  have hm:n*t.sz<=i*t.sz:=Nat.mul_le_mul_right _ (by omega)
  rw [List.drop_append,List.drop_of_length_le (by omega),List.nil_append]
  have:=b3 (i - xs.length) (by omega)
  rw [show i*t.sz - vs.length=(i - xs.length)*t.sz by rw [a2,a1,Nat.sub_mul]]
  exact this
theorem zeroCells_size (z:Array Value) (n:Nat):(Builtin.zeroCells z n).size=n*z.size:=by simp [Builtin.zeroCells]
theorem le_grownCap (need old:Nat) (e:TypeId):need<=grownCap w need old e:=by
 unfold grownCap Question.cut
 simp only
 omega
theorem grow_run {T U e:TypeId} {t:Ty} (hT:P.underlying T=some (.slice e)) (hU:∃ d,P.underlying U=some d/\∀ k,d≠.int k) (hc:tyC P e=some t) {z:Value} (hz:zeroOf P e=some z) (ty:TypeId)
  {A:Option Addr} {len cap n:Nat} {v:Value} {olds news:List Value} (hlen:(Builtin.lenOf v).run P w=.ok n w) (hneed:cap<len+n) (hb:(len+n)*P.bytesOf e<=140737488355328) (hb0:P.bytesOf e≠0)
  (hold:∀ w',w'.heap=w.heap->(Builtin.firstCells t.sz len (.slice A len cap)).run P w'=.ok olds.toArray w') (hnew:∀ w',w'.heap=w.heap->(Builtin.firstCells t.sz n v).run P w'=.ok news.toArray w') :
  (Builtin.append_ #[T,U] ty #[.slice A len cap,v]).run P w=.ok (.slice (some ⟨w.heap.size,0,none⟩) (len+n) (grownCap w (len+n) cap e))
   { w with drawn:=w.drawn+1,heap:=w.heap.push (.cells (olds.toArray++news.toArray++Builtin.zeroCells z.cells (grownCap w (len+n) cap e - (len+n))) e) }:=by
 obtain ⟨_,⟨inf,hi⟩,hsz,_,_⟩:=tyC_some hc
 obtain ⟨hzr,_⟩:=zero_run (w:=w) hz
 obtain ⟨d,hd1,hd2⟩:=hU
 have hbytes:P.bytesOf e=inf.bytes:=by simp [Program.bytesOf,hi]
 rw [hbytes] at hb hb0
 have hti:∀ w',(typeInfo e).run P w'=.ok inf w':=fun w'=>by simp [typeInfo,hi]
 have hzr':∀ w',(zeroValue e).run P w'=.ok z w':=fun w'=>(zero_run (w:=w') hz).1
 have hsz':∀ w',(sizeOf e).run P w'=.ok t.sz w':=fun w'=>by rw [sizeOf_run hi,hsz]
 have hfit:=growslice_fits hneed hb
 have hneg:¬ (len+n<=cap):=by omega
 have hmatch:(match d with | .int _=>true|_=>false)=false:=by
  cases d<;>first|rfl|exact absurd rfl (hd2 _)
 have hroom:∀ (b:Nat) w',(askRoom b).run P w'=.ok () w':=fun b w'=>by
  unfold askRoom;split<;>simp [mark,pure,Sem.run]
 unfold Builtin.append_
 simp only [Sem.run_bind,und hT,Result.andThen_ok,hsz',List.getElem?_toArray,List.getElem?_cons_zero,List.getElem?_cons_succ,und hd1,pure,Sem.run]
 have hzeros:(d matches .int _)=false:=by cases d<;>first|rfl|exact absurd rfl (hd2 _)
 simp only [hzeros,Bool.false_eq_true,if_false,hlen,Result.andThen_ok,Sem.run_bind,false_or,Bool.not_false,if_true]
 rw [if_neg hneg]
 simp only [Sem.run_bind,hti,Result.andThen_ok]
 have h63:¬ (((len+n:Nat):Int)>IntKind.i64.max/\inf.bytes=0):=fun h=>hb0 h.2
 rw [if_neg h63]
 have h48:¬ (Builtin.nextslicecap (len+n) cap*inf.bytes>2 ^ 48):=by
  have:(2:Nat) ^ 48=281474976710656:=rfl
  omega
 simp only [pure,Sem.run,Result.andThen_ok,Sem.run_bind,hti]
 rw [if_neg h48]
 simp only [pure,Sem.run,Result.andThen_ok,Sem.run_bind,choose,Question.forced,Bool.false_eq_true,if_false,hti,hroom]
 rw [hold { w with drawn:=w.drawn+1 } rfl]
 simp only [Result.andThen_ok]
 rw [hnew { w with drawn:=w.drawn+1 } rfl]
 simp only [Result.andThen_ok,hzr',newRow_run]
 rfl
theorem room_run {T U e:TypeId} {t:Ty} (hT:P.underlying T=some (.slice e)) (hU:∃ d,P.underlying U=some d/\∀ k,d≠.int k) (hc:tyC P e=some t) (ty:TypeId)
  {b:Nat} {len cap n:Nat} {v:Value} {news:List Value} (hlen:(Builtin.lenOf v).run P w=.ok n w) (hneed:len+n<=cap) (hnew:(Builtin.firstCells t.sz n v).run P w=.ok news.toArray w)
  {w':World} (hst:(storeCells ⟨b,len*t.sz,none⟩ news).run P w=.ok () w') :
  (Builtin.append_ #[T,U] ty #[.slice (some ⟨b,0,none⟩) len cap,v]).run P w=.ok (.slice (some ⟨b,0,none⟩) (len+n) cap) w':=by
 obtain ⟨_,⟨inf,hi⟩,hsz,_,_⟩:=tyC_some hc
 obtain ⟨d,hd1,hd2⟩:=hU
 have hsz':∀ w',(sizeOf e).run P w'=.ok t.sz w':=fun w'=>by rw [sizeOf_run hi,hsz]
 have hzeros:(d matches .int _)=false:=by cases d<;>first|rfl|exact absurd rfl (hd2 _)
 unfold Builtin.append_
 simp only [Sem.run_bind,und hT,Result.andThen_ok,hsz',List.getElem?_toArray,List.getElem?_cons_zero,List.getElem?_cons_succ,und hd1,pure,Sem.run]
 simp only [hzeros,Bool.false_eq_true,if_false,hlen,Result.andThen_ok,Sem.run_bind,Bool.not_false,if_true]
 rw [if_pos hneed]
 simp only [Sem.run_bind,hnew,Result.andThen_ok,addr_add,Nat.zero_add,hst,pure,Sem.run]
theorem nil_room_run {T U e:TypeId} {t:Ty} (hT:P.underlying T=some (.slice e)) (hU:∃ d,P.underlying U=some d/\∀ k,d≠.int k) (hc:tyC P e=some t) (ty:TypeId)
  {v:Value} {news:List Value} (hlen:(Builtin.lenOf v).run P w=.ok 0 w) (hnew:(Builtin.firstCells t.sz 0 v).run P w=.ok news.toArray w) :
  (Builtin.append_ #[T,U] ty #[.slice none 0 0,v]).run P w=.ok (.slice none 0 0) w:=by
 obtain ⟨_,⟨inf,hi⟩,hsz,_,_⟩:=tyC_some hc
 obtain ⟨d,hd1,hd2⟩:=hU
 have hsz':∀ w',(sizeOf e).run P w'=.ok t.sz w':=fun w'=>by rw [sizeOf_run hi,hsz]
 have hzeros:(d matches .int _)=false:=by cases d<;>first|rfl|exact absurd rfl (hd2 _)
 unfold Builtin.append_
 simp only [Sem.run_bind,und hT,Result.andThen_ok,hsz',List.getElem?_toArray,List.getElem?_cons_zero,List.getElem?_cons_succ,und hd1,pure,Sem.run]
 simp only [hzeros,Bool.false_eq_true,if_false,hlen,Result.andThen_ok,Sem.run_bind,Bool.not_false,if_true]
 simp only [Nat.add_zero,Nat.le_refl,if_true,Sem.run_bind,hnew,Result.andThen_ok,pure,Sem.run]
theorem empty_first {size len cap:Nat} {A:Option Addr}:(Builtin.firstCells size 0 (.slice A len cap)).run P w=.ok ([]:List Value).toArray w:=by
 cases A with
 |none=>simp [Builtin.firstCells,pure,Sem.run]
 |some a=>
  simp only [Builtin.firstCells,Nat.zero_mul]
  exact run_loadCells_list (P:=P) w a [] (fun j v hj=>by simp at hj)
theorem empty_room_run {T U e:TypeId} {t:Ty} (hT:P.underlying T=some (.slice e)) (hU:∃ d,P.underlying U=some d/\∀ k,d≠.int k) (hc:tyC P e=some t) (ty:TypeId)
  {v:Value} {A:Option Addr} (hlen:(Builtin.lenOf v).run P w=.ok 0 w) (hnew:(Builtin.firstCells t.sz 0 v).run P w=.ok ([]:List Value).toArray w) :
  (Builtin.append_ #[T,U] ty #[.slice A 0 0,v]).run P w=.ok (.slice A 0 0) w:=by
 cases A with
 |none=>exact nil_room_run hT hU hc ty hlen hnew
 |some a=>
  obtain ⟨_,⟨inf,hi⟩,hsz,_,_⟩:=tyC_some hc
  obtain ⟨d,hd1,hd2⟩:=hU
  have hsz':∀ w',(sizeOf e).run P w'=.ok t.sz w':=fun w'=>by rw [sizeOf_run hi,hsz]
  have hzeros:(d matches .int _)=false:=by cases d<;>first|rfl|exact absurd rfl (hd2 _)
  unfold Builtin.append_
  simp only [Sem.run_bind,und hT,Result.andThen_ok,hsz',List.getElem?_toArray,List.getElem?_cons_zero,List.getElem?_cons_succ,und hd1,pure,Sem.run]
  simp only [hzeros,Bool.false_eq_true,if_false,hlen,Result.andThen_ok,Sem.run_bind,Bool.not_false,if_true]
  simp only [Nat.add_zero,Nat.le_refl,if_true,Sem.run_bind,hnew,Result.andThen_ok,pure,Sem.run,storeCells]
theorem none_first {size n len cap:Nat}:(Builtin.firstCells size n (.slice none len cap)).run P w=.ok ([]:List Value).toArray w:=by simp [Builtin.firstCells,pure,Sem.run]
theorem sim_append {X H} (g:Good X F w β H) {id0:Nat} (hid:β id0=none) {T U ty:TypeId} {a b x:AV} {H':Heap} {hd:Bool} (h:exAppend P T U H id0 a b=some (x,H',hd)) {va vb:Value} (ha:RelV F w β a va) (hb:RelV F w β b vb) :
  ∃ r w',(Builtin.append_ #[T,U] ty #[va,vb]).run P w=.ok r w'/\Left X F w β H' id0 x r w':=by
 unfold exAppend at h
 cases hT:elemTy P T with
 |none=>rw [hT] at h;cases h
 |some et=>
 obtain ⟨e,t⟩:=et
 rw [hT] at h
 simp only [zb] at h
 obtain ⟨hT1,hT2⟩:=elemTy_some hT
 cases hz:zeroD P e t with
 |none=>rw [hz] at h;cases h
 |some zd=>
 rw [hz] at h
 simp only [zb] at h
 obtain ⟨z,hz1,hz2⟩:=zeroD_rep (F:=F) (w:=w) hz
 have hzs:z.cells.size=t.sz:=by have:=rep_len _ _ _ hz2;simpa using this
 split at h
 ·cases h
 rename_i hb0
 cases hs:srcOf P U H t b with
 |none=>rw [hs] at h;cases h
 |some ys=>
 rw [hs] at h
 simp only [zb] at h
 obtain ⟨hU,hlen,vs,hvs,hfc⟩:=src_cells g hs hb
 have hvl:vs.length=ys.length*t.sz:=(rep_ar_iff.1 hvs).2.1
 have hfc':∀ w',w'.heap=w.heap->(Builtin.firstCells t.sz ys.length vb).run P w'=.ok vs.toArray w':=fun w' hw'=>by
  rw [hfc ys.length (Nat.le_refl _) w' hw',List.take_of_length_le (by omega)]
 have fresh:∀ {H0:Heap},Good X F w β H0->∀ {zs:List t.D} {us:List Value} {A:Option Addr} {cap:Nat},rep F w (.ar zs.length t) zs us->cap<zs.length+ys.length->(zs.length+ys.length)*P.bytesOf e<=maxBytes ->
   (∀ w',w'.heap=w.heap->(Builtin.firstCells t.sz zs.length (.slice A zs.length cap)).run P w'=.ok us.toArray w') ->
   ∃ r w',(Builtin.append_ #[T,U] ty #[.slice A zs.length cap,vb]).run P w=.ok r w'/\Left X F w β (H0.set id0 (.row t (zs++ys) false)) id0 (.full id0) r w':=by
  intro H0 g0 zs us A cap hzs' hneed hbytes hold
  have hrun:=grow_run (P:=P) (w:=w) hT1 hU hT2 hz1 ty hlen hneed hbytes hb0 hold hfc'
  have hgc:=le_grownCap (w:=w) (zs.length+ys.length) cap e
  have hul:us.length=zs.length*t.sz:=(rep_ar_iff.1 hzs').2.1
  have hrep:=rep_ar_append hzs' hvs
  obtain ⟨c,g',ex,rv⟩:=new_row g0 hid (t:=t) (xs:=zs++ys) (vs:=us++vs) (rest:=(Builtin.zeroCells z.cells (grownCap w (zs.length+ys.length) cap e - (zs.length+ys.length))).toList) (cap:=grownCap w (zs.length+ys.length) cap e)
   (by rw [zL];exact hrep) (by rw [zL];exact hgc) (by
    simp only [zL,Array.length_toList,zeroCells_size,hzs,hul,hvl]
    rw [←Nat.add_mul,←Nat.add_mul]
    congr 1;omega) e (0,0) (fun o _=>by simp)
  have hcells:us.toArray++vs.toArray++Builtin.zeroCells z.cells (grownCap w (zs.length+ys.length) cap e - (zs.length+ys.length)) =
    (us++vs++(Builtin.zeroCells z.cells (grownCap w (zs.length+ys.length) cap e - (zs.length+ys.length))).toList).toArray:=by
   apply Array.ext';simp
  rw [hcells] at hrun
  refine ⟨_,_,hrun,F,upd β id0 c,g'.same rfl ⟨rfl,rfl⟩,ex.trans (Ext.same rfl),?_,fun j hj=>?_⟩
  ·have hx:RelV F { w with drawn:=w.drawn+1,heap:=w.heap.push (.cells (us++vs++(Builtin.zeroCells z.cells (grownCap w (zs.length+ys.length) cap e - (zs.length+ys.length))).toList).toArray e) } (upd β id0 c)
     (.full id0) (.slice (some ⟨w.heap.size,0,none⟩) (zs++ys).length (grownCap w (zs.length+ys.length) cap e)):=by
    refine RelV.same ?_ rv
    rfl
   rw [zL] at hx
   exact hx
  ·by_cases e':j=id0
   ·exact .inr e'
   ·left;rw [upd_ne e'] at hj;exact hj
 split at h
 ·
  split at h
  ·rename_i hbytes
   cases h
   rw [ha.nilS_inv]
   by_cases hn:ys.length=0
   ·have hnil:ys=[]:=List.eq_nil_of_length_eq_zero hn
    subst hnil
    obtain ⟨g',ex,rv⟩:=g.nilRow hid t
    refine ⟨_,w,nil_room_run hT1 hU hT2 ty hlen (hfc' w rfl),F,_,g',ex,rv,fun j hj=>?_⟩
    by_cases e':j=id0
    ·exact .inr e'
    ·left;rw [upd_ne e'] at hj;exact hj
   ·have:=fresh g (zs:=[]) (us:=[]) (A:=none) (cap:=0) (by rw [rep_ar_iff];exact ⟨rfl,by simp,fun i hi=>by simp at hi⟩) (by simp;omega) (by simpa using hbytes) (fun w' _=>none_first)
    simpa using this
  ·cases h
 ·
  rename_i id
  split at h
  ·rename_i u xs hH
   cases hq:castL (u:=t) xs with
   |none=>rw [hq] at h;cases h
   |some zs=>
    rw [hq] at h
    simp only [zb] at h
    obtain ⟨ee,he⟩:=castL_some hq
    subst ee
    have he':zs=xs:=he
    subst he'
    split at h
    ·rename_i hbytes
     cases h
     obtain ⟨c,t',len,rfl,hc,hsh,hle⟩:=ha.full_inv
     obtain ⟨blk,hb1,hb2⟩:=g.hr id c hc
     rw [hH] at hb1;cases hb1
     obtain ⟨r1,r2,r3,r4⟩:=hb2
     have hl:len=zs.length:=by rw [hsh] at r1;injection r1
     subst hl
     have hne:id≠id0:=fun e=>by rw [e,hid] at hc;cases hc
     by_cases hroom:zs.length+ys.length<=c.cap
     ·cases hcb:c.b with
      |none=>
       obtain ⟨h1,h2⟩:=r3 hcb
       subst h1
       rw [h2] at hroom ⊢
       have hn:ys=[]:=List.eq_nil_of_length_eq_zero (by simpa using hroom)
       subst hn
       have hv0:vs=[]:=List.eq_nil_of_length_eq_zero (by rw [hvl];simp)
       subst hv0
       obtain ⟨g',ex,rv⟩:=(g.kill id).emptyB hid u c.adr (.inl rfl)
       refine ⟨_,w,empty_room_run hT1 hU hT2 ty hlen (hfc' w rfl),F,_,g',ex,rv,fun j hj=>?_⟩
       by_cases e':j=id0
       ·exact .inr e'
       ·left;rw [upd_ne e'] at hj;exact hj
      |some bb=>
       obtain ⟨⟨l,hl,hsz2,hrr⟩,r5,r6⟩:=r4 bb hcb
       have hm:(zs.length+ys.length)*u.sz<=c.cap*u.sz:=Nat.mul_le_mul_right _ hroom
       rw [Nat.add_mul] at hm
       obtain ⟨w',s1,s2,s3,s4,s5,s6⟩:=store_run (P:=P) vs w bb (zs.length*u.sz) 0 l hl (by omega) (fun k hk=>by
        rcases Nat.lt_or_ge (zs.length*u.sz+0+k) (c.cap*u.sz) with hh|hh
        ·rw [r6 rfl _ hh] at hk;cases hk
        ·omega) (rep_one _ _ _ hvs)
       rw [Nat.add_zero] at s4
       have hsp:(splice l (zs.length*u.sz) vs).length=l.length:=splice_len _ _ _ (by omega)
       obtain ⟨g',ex⟩:=g.moveRow (id0:=id0) hid (c':=⟨c.b,c.cap,.row u (zs++ys).length,none⟩) hc (by rw [hH];rfl) rfl (w':=w') (fun b' hb'=>s3 b' (fun e=>hb' (by rw [hcb,e]))) s2 s6 (t:=u) (ys:=zs++ys) (fun ex=>by
        refine ⟨rfl,by rw [zL];exact hroom,(fun e=>by rw [hcb] at e;cases e),fun b' hb'=>?_⟩
        rw [show (Conc.b ⟨c.b,c.cap,.row u (zs++ys).length,none⟩)=c.b from rfl,hcb] at hb';cases hb'
        refine ⟨⟨_,s4,by rw [hsp];exact hsz2,fun i hi=>?_⟩,(fun e=>by cases e),fun _ o ho=>(s5 bb o).trans (r6 rfl o ho)⟩
        simp only [zL] at hi
        have hmi:(i+1)*u.sz<=(zs.length+ys.length)*u.sz:=Nat.mul_le_mul_right _ (by omega)
        rw [Nat.add_mul,Nat.add_mul] at hmi
        by_cases hlt:i<zs.length
        ·have hmz:(i+1)*u.sz<=zs.length*u.sz:=Nat.mul_le_mul_right _ hlt
         rw [Nat.add_mul] at hmz
         rw [List.getElem_append_left hlt,splice_apart _ _ _ (by omega) _ _ (.inl (by omega))]
         exact rep_mono ex.f _ _ _ (hrr i hlt)
        ·rw [List.getElem_append_right (by omega)]
         have hmz:zs.length*u.sz<=i*u.sz:=Nat.mul_le_mul_right _ (by omega)
         obtain ⟨_,_,hv3⟩:=rep_ar_iff.1 hvs
         have:=hv3 (i - zs.length) (by omega)
         have hself:=splice_self l (zs.length*u.sz) vs (by omega)
         have e1:((splice l (zs.length*u.sz) vs).drop (i*u.sz)).take u.sz=(vs.drop ((i - zs.length)*u.sz)).take u.sz:=by
          have hmi2:(i - zs.length+1)*u.sz<=ys.length*u.sz:=Nat.mul_le_mul_right _ (by omega)
          rw [Nat.add_mul] at hmi2
          have e2:=seg_seg (splice l (zs.length*u.sz) vs) (a:=zs.length*u.sz) (n:=vs.length) (b:=(i - zs.length)*u.sz) (m:=u.sz) (by rw [hvl];omega)
          rw [hself] at e2
          rw [e2]
          congr 2
          rw [Nat.sub_mul];omega
         rw [e1]
         exact rep_mono ex.f _ _ _ this)
       refine ⟨_,w',by rw [Conc.adr_some hcb];exact room_run hT1 hU hT2 ty hlen hroom (hfc' w rfl) s1,F,_,g',ex,?_,fun j hj=>?_⟩
       ·have:=RelV.one (F:=F) (w:=w') (β:=upd β id0 ⟨c.b,c.cap,.row u (zs++ys).length,none⟩) (.full id0) _ rfl (.full id0 _ u (zs++ys).length upd_self rfl (by rw [zL];exact hroom))
        simpa [Conc.adr,hcb] using this
       ·by_cases e':j=id0
        ·exact .inr e'
        ·left;rw [upd_ne e'] at hj;exact hj
     ·
      have hrow:∃ us,rep F w (.ar zs.length u) zs us/\∀ w',w'.heap=w.heap->(Builtin.firstCells u.sz zs.length (.slice c.adr zs.length c.cap)).run P w'=.ok us.toArray w':=by
       have hA:arrAt H id 0=some ⟨u,zs⟩:=by unfold arrAt;rw [hH];rfl
       obtain ⟨_,a2,a3⟩:=arrAt_rel g hA hc
       cases hcb:c.b with
       |none=>
        have:=a3 hcb
        subst this
        exact ⟨[],by rw [rep_ar_iff];exact ⟨rfl,by simp,fun i hi=>by simp at hi⟩,fun w' _=>empty_first⟩
       |some bb=>
        obtain ⟨l,hl,hle2,hrep⟩:=a2 bb hcb
        refine ⟨_,hrep,fun w' hw'=>?_⟩
        rw [Conc.adr_some hcb]
        simp only [Builtin.firstCells]
        exact load_run ⟨l,(by unfold cellsAt at hl ⊢;rw [hw'];exact hl),by omega,rfl⟩
      obtain ⟨us,hu1,hu2⟩:=hrow
      exact fresh (g.kill id) hu1 (by omega) hbytes hu2
    ·cases h
  ·cases h
 ·cases h
end
end
section
section
variable {P:Program} {F:Nat->Prop} {w:World} {β:Nat->Option Conc}
theorem sim_copy {X H} (g:Good X F w β H) {id0:Nat} {T U ty:TypeId} {a b x:AV} {H':Heap} {hd:Bool} (h:exCopy P T U H a b=some (x,H',hd)) {va vb:Value} (ha:RelV F w β a va) (hb:RelV F w β b vb) :
  ∃ r w',(Builtin.copy_ #[T,U] ty #[va,vb]).run P w=.ok r w'/\Left X F w β H' id0 x r w':=by
 unfold exCopy at h
 cases hT:elemTy P T with
 |none=>rw [hT] at h;cases h
 |some et=>
 obtain ⟨e,t⟩:=et
 rw [hT] at h
 simp only [zb] at h
 obtain ⟨hT1,hT2⟩:=elemTy_some hT
 obtain ⟨_,⟨inf,hi⟩,hsz,_,_⟩:=tyC_some hT2
 have hsz':∀ w',(sizeOf e).run P w'=.ok t.sz w':=fun w'=>by rw [sizeOf_run hi,hsz]
 have hdst:∃ id off lo hi,(∃ c n u A cap,va=.slice A (hi - lo).toNat cap/\β id=some c/\arrSh c.sh off=some (n,u)/\0<=lo/\lo<=hi/\hi<=(n:Int)/\(lo=hi\/∃ b,c.b=some b/\A=some ⟨b,off+lo.toNat*u.sz,none⟩)) /\
   (match arrAt H id off with
    |some ⟨u,xs⟩=>(castL (u:=t) xs).bind fun zs=>(srcOf P U H t b).bind fun ys=>
     (setArr H id off t (zs.take lo.toNat++(ys.take (hi - lo).toNat++zs.drop (lo.toNat+min ys.length (hi - lo).toNat)))).map fun h'=>
      (AV.dat (.int .i64) ((min ys.length (hi - lo).toNat:Nat):Int),h',true)
    |none=>none)=some (x,H',hd):=by
  cases a with
  |full id=>
   simp only at h
   cases hA:arrAt H id 0 with
   |none=>rw [hA] at h;cases h
   |some p=>
    obtain ⟨u,xs⟩:=p
    rw [hA] at h
    simp only [Option.map_some,zb] at h
    obtain ⟨c,t',len,hv,hc,hsh,hle⟩:=ha.full_inv
    obtain ⟨h1,h2,h3⟩:=arrAt_rel g hA hc
    have hl:len=xs.length/\t'=u:=by rw [hsh] at h1;simpa [arrSh] using h1
    obtain ⟨rfl,rfl⟩:=hl
    refine ⟨id,0,0,xs.length,⟨c,xs.length,t',_,_,by simpa using hv,hc,h1,by omega,by omega,by omega,?_⟩,h⟩
    cases hcb:c.b with
    |none=>left;rw [h3 hcb];rfl
    |some bb=>right;exact ⟨bb,rfl,by simp [Conc.adr_some hcb]⟩
  |sub id off lo hi=>
   simp only [zb] at h
   obtain ⟨c,n,u,A,cap,hv,hc,hsh,h4,h5,h6,h7,h8⟩:=ha.sub_inv
   exact ⟨id,off,lo,hi,⟨c,n,u,A,cap,hv,hc,hsh,h4,h5,h6,h8⟩,h⟩
  |_=>cases h
 obtain ⟨id,off,lo,hi,⟨c,n,u,A,cap,rfl,hc,hsh,h4,h5,h6,h8⟩,h⟩:=hdst
 split at h
 ·rename_i u' xs hA
  cases hq:castL (u:=t) xs with
  |none=>rw [hq] at h;cases h
  |some zs=>
   rw [hq] at h
   simp only [zb] at h
   obtain ⟨ee,he⟩:=castL_some hq
   subst ee
   have he':zs=xs:=he
   subst he'
   cases hs:srcOf P U H u' b with
   |none=>rw [hs] at h;cases h
   |some ys=>
    rw [hs] at h
    simp only [zb] at h
    obtain ⟨h1,h2,h3⟩:=arrAt_rel g hA hc
    rw [hsh] at h1;cases h1
    obtain ⟨hU,hlen,vs,hvs,hfc⟩:=src_cells g hs hb
    have hvl:vs.length=ys.length*u.sz:=(rep_ar_iff.1 hvs).2.1
    generalize hm:min ys.length (hi - lo).toNat=m at h
    have hm1:m<=ys.length:=by omega
    have hm2:m<=(hi - lo).toNat:=by omega
    cases hset:setArr H id off u (zs.take lo.toNat++(ys.take (hi - lo).toNat++zs.drop (lo.toNat+m))) with
    |none=>rw [hset] at h;cases h
    |some h'=>
     rw [hset] at h;cases h
     have hmm:m*u.sz<=ys.length*u.sz:=Nat.mul_le_mul_right _ hm1
     have hrun:∀ (Q:World),((match (A:Option Addr) with|some a=>storeCells a (vs.take (m*u.sz))|none=>pure ()):Sem Unit).run P w=.ok () Q->(Builtin.copy_ #[T,U] ty #[.slice A (hi - lo).toNat cap,vb]).run P w=.ok (.int .i64 m) Q:=by
      intro Q hQ
      unfold Builtin.copy_
      simp only [Sem.run_bind,und hT1,Result.andThen_ok,List.getElem?_toArray,List.getElem?_cons_zero,List.getElem?_cons_succ,hlen,hsz']
      rw [show Nat.min ys.length (hi - lo).toNat=m from hm,hfc m hm1 w rfl]
      simp only [Result.andThen_ok]
      cases A with
      |none=>
       simp only [pure,Sem.run] at hQ ⊢
       cases hQ
       rfl
      |some a=>
       simp only [Sem.run_bind] at hQ ⊢
       rw [hQ]
       rfl
     rcases h8 with h8|⟨bb,hbb,rfl⟩
     ·
      have hm0:m=0:=by omega
      subst hm0
      have hnew:zs.take lo.toNat++(ys.take (hi - lo).toNat++zs.drop (lo.toNat+0))=zs:=by
       rw [show (hi - lo).toNat=0 by omega];simp
      rw [hnew] at hset
      cases hcb:c.b with
      |none=>
       have hz:=h3 hcb
       have hH':H'=H.set id (.row u zs false)/\H id=some (.row u zs false):=by
        unfold setArr at hset
        obtain ⟨blk,hb1,hb2⟩:=g.hr id c hc
        rw [hb1] at hset
        unfold arrAt at hA
        rw [hb1] at hA
        cases blk with
        |dead=>cases hA
        |deep _ _ _=>cases hA
        |mapB _ _ _=>cases hA
        |row q ws fr=>
         simp only at hA hset
         split at hA
         ·cases hA
          split at hset
          ·rename_i hfr
           obtain ⟨_,rfl⟩:=hfr
           simp only [castL,dif_pos,Option.map_some] at hset
           cases hset
           exact ⟨rfl,hb1⟩
          ·cases hset
         ·cases hA
        |vars cs=>
         obtain ⟨_,b',hb',_⟩:=hb2
         rw [hcb] at hb';cases hb'
       obtain ⟨rfl,hHid⟩:=hH'
       have hsame:H.set id (.row u zs false)=H:=by
        funext j;by_cases e':j=id
        ·subst e';rw [zJ,hHid]
        ·rw [zH e']
       rw [hsame]
       refine ⟨_,w,hrun w ?_,F,β,g,.refl,RelV.int (by simp [toI]),fun j hj=>.inl hj⟩
       cases A with
       |none=>simp [pure,Sem.run]
       |some a=>simp [storeCells,pure,Sem.run]
      |some bb=>
       obtain ⟨l,hl,hle,hrep⟩:=h2 bb hcb
       obtain ⟨w',s1,s2,s3⟩:=setArr_write (P:=P) g hc hcb hA hset rfl hl (k:=off) (us:=[]) (Nat.le_refl _) (by simp) (by simp) (by simpa [splice] using hrep)
       have hw':w'=w:=by simpa [storeCells,pure,Sem.run,eq_comm] using s1
       subst hw'
       refine ⟨_,w',hrun w' ?_,F,β,s2,s3,RelV.int (by simp [toI]),fun j hj=>.inl hj⟩
       cases A with
       |none=>simp [pure,Sem.run]
       |some a=>simp [storeCells,pure,Sem.run]
     ·obtain ⟨l,hl,hle,hrep⟩:=h2 bb hbb
      have hlen2:(zs.take lo.toNat++(ys.take (hi - lo).toNat++zs.drop (lo.toNat+m))).length=zs.length:=by
       simp;omega
      have hul:(vs.take (m*u.sz)).length=m*u.sz:=by simp;omega
      have hmz:(lo.toNat+m)*u.sz<=zs.length*u.sz:=Nat.mul_le_mul_right _ (by omega)
      rw [Nat.add_mul] at hmz
      have hone:∀ v∈vs.take (m*u.sz),v.oneCell'=true:=fun v hv=>rep_one _ _ _ hvs v (List.mem_of_mem_take hv)
      obtain ⟨_,hvlen,hv3⟩:=rep_ar_iff.1 hvs
      obtain ⟨_,_,hz3⟩:=rep_ar_iff.1 hrep
      have hnew:rep F w (.ar zs.length u) (zs.take lo.toNat++(ys.take (hi - lo).toNat++zs.drop (lo.toNat+m))) (((splice l (off+lo.toNat*u.sz) (vs.take (m*u.sz))).drop off).take (zs.length*u.sz)):=by
       rw [rep_ar_iff]
       refine ⟨hlen2,by rw [List.length_take,List.length_drop,splice_len _ _ _ (by omega)];omega,fun i hi'=>?_⟩
       rw [hlen2] at hi'
       have hmi:(i+1)*u.sz<=zs.length*u.sz:=Nat.mul_le_mul_right _ hi'
       rw [Nat.add_mul] at hmi
       rw [seg_seg _ (by omega)]
       by_cases c1:i<lo.toNat
       ·have hml:(i+1)*u.sz<=lo.toNat*u.sz:=Nat.mul_le_mul_right _ c1
        rw [Nat.add_mul] at hml
        rw [splice_apart _ _ _ (by omega) _ _ (.inl (by omega))]
        have:=hz3 i hi'
        rw [seg_seg _ (by omega)] at this
        rw [List.getElem_append_left (by simp;omega)]
        simpa using this
       ·by_cases c2:i<lo.toNat+m
        ·have hmj:(i - lo.toNat+1)*u.sz<=m*u.sz:=Nat.mul_le_mul_right _ (by omega)
         rw [Nat.add_mul] at hmj
         have hij:i*u.sz=lo.toNat*u.sz+(i - lo.toNat)*u.sz:=by rw [←Nat.add_mul];congr 1;omega
         have e2:=seg_seg (splice l (off+lo.toNat*u.sz) (vs.take (m*u.sz))) (a:=off+lo.toNat*u.sz) (n:=(vs.take (m*u.sz)).length) (b:=(i - lo.toNat)*u.sz) (m:=u.sz) (by omega)
         rw [splice_self _ _ _ (by omega)] at e2
         rw [show off+i*u.sz=off+lo.toNat*u.sz+(i - lo.toNat)*u.sz by omega,←e2]
         have:=hv3 (i - lo.toNat) (by omega)
         have e3:((vs.take (m*u.sz)).drop ((i - lo.toNat)*u.sz)).take u.sz=(vs.drop ((i - lo.toNat)*u.sz)).take u.sz:=by
          have:=seg_seg vs (a:=0) (n:=m*u.sz) (b:=(i - lo.toNat)*u.sz) (m:=u.sz) (by omega)
          simpa using this
         rw [e3]
         have hg:(zs.take lo.toNat++(ys.take (hi - lo).toNat++zs.drop (lo.toNat+m)))[i]'(by rw [hlen2];exact hi')=ys[i - lo.toNat]'(by omega):=by
          rw [List.getElem_append_right (by simp;omega),List.getElem_append_left (by simp;omega)]
          simp [show min lo.toNat zs.length=lo.toNat by omega]
         rw [hg]
         exact this
        ·have hml:(lo.toNat+m)*u.sz<=i*u.sz:=Nat.mul_le_mul_right _ (by omega)
         rw [Nat.add_mul] at hml
         rw [splice_apart _ _ _ (by omega) _ _ (.inr (by omega))]
         have:=hz3 i hi'
         rw [seg_seg _ (by omega)] at this
         have hg:(zs.take lo.toNat++(ys.take (hi - lo).toNat++zs.drop (lo.toNat+m)))[i]'(by rw [hlen2];exact hi')=zs[i]:=by
          apply Option.some_inj.1
          rw [←List.getElem?_eq_getElem,←List.getElem?_eq_getElem]
          rw [List.getElem?_append_right (by simp;omega),List.getElem?_append_right (by simp;omega),List.getElem?_drop]
          congr 1
          simp;omega
         rw [hg]
         exact this
      obtain ⟨w',s1,s2,s3⟩:=setArr_write (P:=P) g hc hbb hA hset hlen2 hl (k:=off+lo.toNat*u.sz) (us:=vs.take (m*u.sz)) (by omega) (by omega) hone hnew
      exact ⟨_,w',hrun w' s1,F,β,s2,s3,RelV.int (by simp [toI]),fun j hj=>.inl hj⟩
 ·cases h
end
end
section
section
variable {P:Program} {F:Nat->Prop} {w:World} {β:Nat->Option Conc}
theorem Left.same {X H id0 a r} (g:Good X F w β H) (h:RelV F w β a r):Left X F w β H id0 a r w:=⟨F,β,g,.refl,h,fun _ hj=>.inl hj⟩
theorem int_of_tyC {e:TypeId} {k:IntKind} (hel:tyC P e=some (.int k)):P.underlying e=some (.int k):=by
 obtain ⟨h1,_⟩:=tyC_some hel
 unfold tyOf at h1
 simp only [TD] at h1
 split at h1
 ·rename_i hu;cases h1;exact hu
 ·cases h1
 ·cases h1
 ·cases hq:tyOf P 11 _ with
  |none=>rw [hq] at h1;cases h1
  |some q=>rw [hq] at h1;cases h1
 ·cases hq:tyOf P 11 _ with
  |none=>rw [hq] at h1;cases h1
  |some q=>rw [hq] at h1;cases h1
 ·rename_i fs hu
  cases hl:fs.toList with
  |nil=>rw [hl] at h1;cases h1
  |cons f l=>
   rw [hl] at h1
   simp only [fieldsTy] at h1
   cases hq:tyOf P 11 f.type with
   |none=>rw [hq] at h1;cases h1
   |some q=>
    rw [hq] at h1
    simp only [zb] at h1
    cases hr:fieldsTy (tyOf P 11) l with
    |none=>rw [hr] at h1;cases h1
    |some r=>rw [hr] at h1;cases h1
 ·cases h1
theorem bytes_fold (xs:List UInt8):∀ (b:ByteArray),(xs.map fun x=>(x.toNat:Int)).foldl (fun r n=>r.push (UInt8.ofNat n.toNat)) b=⟨(b.data.toList++xs).toArray⟩:=by
 induction xs with
 |nil=>intro b;simp
 |cons x xs ih=>
  intro b
  simp only [List.map_cons,List.foldl_cons]
  rw [ih]
  congr 2
  simp
theorem sim_convert {X H} (g:Good X F w β H) {id0:Nat} (hid:β id0=none) {src dst:TypeId} {a x:AV} {H':Heap} {hd:Bool} (h:exConvert P src dst H id0 a=some (x,H',hd)) {v:Value} (ha:RelV F w β a v) :
  ∃ r w',(convert src dst v).run P w=.ok r w'/\Left X F w β H' id0 x r w':=by
 unfold exConvert at h
 split at h
 ·rename_i k0 k hs hd'
  split at h
  ·rename_i j y
   cases h
   rw [ha.int_inv]
   refine ⟨.int k (k.wrap (toI j y)),w,?_,Left.same g (RelV.int (toI_wrI _ _))⟩
   simp [convert,und hs,und hd',Conv.intToInt,pure,Sem.run]
  ·cases h
 ·rename_i hs hd'
  split at h
  ·cases h
   rw [ha.str_inv]
   exact ⟨_,w,by simp [convert,und hs,und hd',pure,Sem.run],Left.same g (RelV.str _)⟩
  ·cases h
 ·rename_i e hs hd'
  split at h
  ·rename_i hel
   have hel:=elemIs_some hel
   have hue:=int_of_tyC hel
   cases hx:asList H (.int .u8) a with
   |none=>rw [hx] at h;cases h
   |some xs=>
    rw [hx] at h;cases h
    have hsrc:srcOf P src H (.int .u8) a=some xs:=by unfold srcOf;rw [hs];exact hx
    obtain ⟨_,hlen,vs,hvs,hfc⟩:=src_cells (P:=P) g hsrc ha
    have hvv:vs=(xs.map fun b=>Value.int .u8 ((UInt8.toNat b:Nat):Int)):=by
     obtain ⟨h1,h2,h3⟩:=rep_ar_iff.1 hvs
     simp only [Ty.sz,Nat.mul_one] at h2
     apply List.ext_getElem?
     intro i
     by_cases hi:i<xs.length
     ·have:=h3 i hi
      simp only [rep,Ty.sz,Nat.mul_one] at this
      have h4:=congrArg (fun z=>z[0]?) this
      simp only [seg_get] at h4
      simpa [hi,toI] using h4
     ·rw [List.getElem?_eq_none (by omega),List.getElem?_eq_none (by simp;omega)]
    refine ⟨.string ⟨xs.toArray⟩,w,?_,Left.same g (RelV.str xs)⟩
    have hform:∃ A n c,v=.slice A n c:=by
     unfold asList at hx
     split at hx
     ·exact ⟨_,_,_,ha.nilS_inv⟩
     ·split at hx
      ·rename_i hE
       cases ha with
       |one _ _ _ hrc=>obtain ⟨A,c,hv,_⟩:=elems_at g hE hrc;exact ⟨A,_,c,hv⟩
       |many _ _ hm _=>
        exfalso
        unfold elemsOf at hE
        split at hE<;>first|(simp [isMany] at hm;done)|cases hE
       |tup=>cases hE
       |any=>cases hE
      ·cases hx
    obtain ⟨A,n,c,rfl⟩:=hform
    rw [run_convert_bytes_string w src dst e A n c hs hue hd']
    have hn:n=xs.length:=by simpa [Builtin.lenOf,pure,Sem.run] using hlen
    subst hn
    have hf:=hfc xs.length (Nat.le_refl _) w rfl
    cases A with
    |none=>
     have:xs=[]:=by
      simp only [Builtin.firstCells,pure,Sem.run] at hf
      injection hf with hf
      have:=congrArg Array.size hf
      rw [hvv] at this
      simp [Ty.sz] at this
      exact List.eq_nil_of_length_eq_zero this.symm
     subst this
     simp [Conv.bytesToString,pure,Sem.run]
     rfl
    |some a=>
     simp only [Builtin.firstCells,Ty.sz,Nat.mul_one] at hf
     rw [List.take_of_length_le (by rw [hvv];simp),hvv] at hf
     rw [show (xs.map fun b=>Value.int .u8 ((UInt8.toNat b:Nat):Int))=(xs.map fun x=>(x.toNat:Int)).map (Value.int .u8) by simp] at hf
     rw [run_bytesToString w a xs.length c _ hf,bytes_fold]
     simp
  ·cases h
 ·rename_i e hs hd'
  split at h
  ·rename_i hel
   have hel:=elemIs_some hel
   split at h
   ·rename_i s
    cases h
    rw [ha.str_inv]
    have hue:=int_of_tyC hel
    have hsz:(ByteArray.mk s.toArray).size=s.length:=by simp [ByteArray.size]
    generalize hcap:(Question.appendCap s.length 0 e).cut (w.tape w.drawn (.appendCap s.length 0 e))=cap
    have hle:s.length<=cap:=by rw [←hcap];unfold Question.cut;simp only;omega
    obtain ⟨c,g',ex,rv⟩:=new_row g hid (t:=.int .u8) (xs:=s) (vs:=s.map fun b:UInt8=>Value.int .u8 (b.toNat:Int)) (rest:=List.replicate (cap - s.length) (Value.int .u8 0)) (cap:=cap) (rep_bytes s) hle (by simp [Ty.sz];omega) e (cap,cap+1) (fun o ho=>by simp only [Ty.sz,Nat.mul_one] at ho;omega)
    refine ⟨.slice (some ⟨w.heap.size,0,none⟩) s.length cap,{ w with drawn:=w.drawn+1,heap:=w.heap.push (.cells ((s.map fun b:UInt8=>Value.int .u8 (b.toNat:Int))++List.replicate (cap - s.length) (Value.int .u8 0)).toArray e (cap,cap+1)) },?_,F,upd β id0 c,g'.same rfl ⟨rfl,rfl⟩,ex.trans (Ext.same rfl),by refine RelV.same ?_ rv;rfl,fun j hj=>?_⟩
    ·simp only [convert,Sem.run_bind,und hs,und hd',und hue,Result.andThen_ok]
     unfold Conv.stringToBytes
     simp only [Sem.run_bind,choose,Sem.run,Question.forced,Bool.false_eq_true,if_false,Result.andThen_ok,hsz,hcap,newRow_run]
     have hmap:Array.map (fun b:UInt8=>Value.int IntKind.u8 (b.toNat:Int)) s.toArray++Array.replicate (cap - s.length) (Value.int IntKind.u8 0)=((s.map fun b:UInt8=>Value.int .u8 (b.toNat:Int))++List.replicate (cap - s.length) (Value.int .u8 0)).toArray:=by
      apply Array.ext';simp
     rw [hmap]
     unfold markStringish
     simp only [Sem.run_bind,shape,Sem.run,World.shape?,Result.andThen_ok]
     simp [freeze,Sem.run,World.freeze,pure]
     have e1:s.length+(cap - s.length)=cap:=by omega
     simp only [e1]
     refine Array.ext (by simp) ?_
     intro i h1 h2
     rw [Array.getElem_modify]
     simp only [Array.getElem_push]
     by_cases hi:i<w.heap.size
     ·rw [dif_pos hi,dif_pos hi,if_neg (by omega)]
     ·rw [dif_neg hi,dif_neg hi,if_pos (by simp at h2;omega)]
      simp
    ·by_cases e':j=id0
     ·exact .inr e'
     ·left;rw [upd_ne e'] at hj;exact hj
   ·cases h
  ·cases h
 ·rename_i e0 e hs hd'
  split at h
  ·rename_i hc0
   obtain ⟨rfl,hel⟩:=hc0
   obtain rfl:e0=e:=by rw [hs] at hd';cases hd';rfl
   have hel:=elemIs_some hel
   have hue:=int_of_tyC hel
   split at h
   ·rename_i id
    split at h
    ·rename_i t x0 xs0 hH
     cases h
     obtain ⟨c,t',len,rfl,hc,hsh,hle⟩:=ha.full_inv
     obtain ⟨blk,hb1,hb2⟩:=g.hr id c hc
     rw [hH] at hb1
     cases hb1
     simp only [BRel] at hb2
     obtain ⟨q1,q2,q3,q4⟩:=hb2
     cases hcb:c.b with
     |none=>have:=(q3 hcb).1;cases this
     |some b=>
      obtain ⟨⟨l,hl,hcap,hrep⟩,hF,hfr⟩:=q4 b hcb
      have hfr:=hfr trivial
      have hb:b<w.heap.size:=(g.own id c b hc (by rw [hH];rfl) hcb).2.2
      obtain ⟨cs,el,fz,hobj,hlc⟩:∃ cs el fz,w.heap[b]?=some (.cells cs el fz)/\l=cs.toList:=by
       unfold cellsAt at hl
       split at hl
       ·rename_i c0 el fz hh;cases hl;exact ⟨c0,el,fz,hh,rfl⟩
       ·cases hl
      have hw':∀ b',b'≠b->(w.freeze ⟨b,cs.size,none⟩ 1).heap[b']?=w.heap[b']?:=fun b' hne=>by
       simp [World.freeze,Array.getElem?_modify,Ne.symm hne]
      have hcells:∀ b',cellsAt (w.freeze ⟨b,cs.size,none⟩ 1) b'=cellsAt w b':=fun b'=>by
       by_cases hne:b'=b
       ·subst hne
        unfold cellsAt
        simp [World.freeze,Array.getElem?_modify,hobj]
       ·exact cellsAt_of_heap (hw' b' hne)
      have hfz:∀ o,o<c.cap*t.sz->frz (w.freeze ⟨b,cs.size,none⟩ 1) ⟨b,o,none⟩=false:=fun o ho=>by
       have h0:=hfr o ho
       have hsz:c.cap*t.sz=cs.size:=by rw [hcap,hlc];simp
       obtain ⟨lo,hi⟩:=fz
       have hall:∀ o,o<c.cap*t.sz->lo<=hi/\¬ (lo<=o/\o<hi):=fun o ho=>by
        have h0:=hfr o ho
        unfold frz at h0
        simp only [hobj] at h0
        simp at h0
        exact ⟨h0.1,fun h=>by have:=h0.2 h.1;omega⟩
       have h1:=hall o ho
       have h2:lo≠hi->cs.size<=lo:=fun hne=>by
        rcases Nat.lt_or_ge lo (c.cap*t.sz) with h|h
        ·exact absurd ⟨Nat.le_refl _,by have:=(hall lo h).1;omega⟩ (hall lo h).2
        ·omega
       have e8:(w.freeze ⟨b,cs.size,none⟩ 1).heap[b]?=some (.cells cs el (if (lo == hi)=true then (cs.size,cs.size+1) else (min lo cs.size,max hi (cs.size+1)))):=by
        simp [World.freeze,Array.getElem?_modify,hobj]
       unfold frz
       simp only [e8]
       by_cases hlh:lo=hi
       ·rw [if_pos (by simpa using hlh)]
        simp only [Bool.or_eq_false_iff,Bool.and_eq_false_iff,Bool.not_eq_false',decide_eq_true_eq,decide_eq_false_iff_not]
        omega
       ·have:=h2 hlh
        rw [if_neg (by simpa using hlh)]
        simp only [Bool.or_eq_false_iff,Bool.and_eq_false_iff,Bool.not_eq_false',decide_eq_true_eq,decide_eq_false_iff_not]
        omega
      have hG:=g.write (w':=w.freeze ⟨b,cs.size,none⟩ 1) (blk:=.row t (x0::xs0) false) hc (by rw [hH];rfl) hcb hw' (by simp [World.freeze]) ⟨rfl,rfl⟩ ?_ (fun _=>rfl) ?_
      ·obtain ⟨g',ex⟩:=hG
       have hset:H.set id (.row t (x0::xs0) false)=H:=by
        funext j
        by_cases hj:j=id
        ·subst hj;rw [zJ,hH]
        ·rw [zH hj]
       rw [hset] at g'
       refine ⟨.slice c.adr len c.cap,w.freeze ⟨b,cs.size,none⟩ 1,?_,F,β,g',ex,ha.mono ex,fun j hj=>.inl hj⟩
       rw [Conc.adr_some hcb]
       simp only [convert,Sem.run_bind,und hs,und hd',und hue,Result.andThen_ok,beq_self_eq_true]
       unfold markStringish
       simp [Sem.run_bind,shape,Sem.run,World.shape?,Result.andThen_ok,hobj,freeze,pure]
      ·simp only [BRel]
       refine ⟨q1,q2,q3,fun b' hb'=>?_⟩
       rw [hcb] at hb';cases hb'
       refine ⟨⟨l,(hcells b).trans hl,hcap,fun i hi=>rep_mono (fun b' h=>⟨h,hcells b'⟩) _ _ _ (hrep i hi)⟩,fun h=>(by cases h),fun _ o ho=>hfz o ho⟩
      ·intro b' h'
       exact h'.elim
    ·cases h
   ·cases h
  ·cases h
 ·cases h
def Rowish (ob:Option Blk):Prop:=(∃ t xs fr,ob=some (.row t xs fr))\/∃ e xs,ob=some (.deep e xs none)
theorem frz1_self {H:Heap} {k:Nat}:(Rowish (H k)->∃ t xs,frz1 H k k=some (.row t xs true))/\(¬ Rowish (H k)->frz1 H k k=H k):=by
 unfold frz1
 rw [if_pos rfl]
 split
 ·rename_i t xs fr h;exact ⟨fun _=>⟨t,xs,rfl⟩,fun hn=>(hn (.inl ⟨t,xs,fr,h⟩)).elim⟩
 ·rename_i e xs h;exact ⟨fun _=>⟨e,xs,rfl⟩,fun hn=>(hn (.inr ⟨e,xs,h⟩)).elim⟩
 ·rename_i h1 h2
  refine ⟨fun h=>?_,fun _=>rfl⟩
  rcases h with ⟨t,xs,fr,h⟩|⟨e,xs,h⟩
  ·exact (h1 _ _ _ h).elim
  ·exact (h2 _ _ h).elim
theorem frz1_ne {H:Heap} {k j:Nat} (e:j≠k):frz1 H k j=H j:=by unfold frz1;rw [if_neg e]
theorem frz1_rowish {H:Heap} {k j:Nat}:Rowish (frz1 H k j)↔Rowish (H j):=by
 by_cases e:j=k
 ·subst e
  by_cases h:Rowish (H j)
  ·obtain ⟨t,xs,h'⟩:=frz1_self.1 h
   exact ⟨fun _=>h,fun _=>.inl ⟨t,xs,true,h'⟩⟩
  ·rw [frz1_self.2 h]
 ·rw [frz1_ne e]
theorem Good.frz1 {X H} (g:Good X F w β H) (id:Nat):∃ F',Good X F' w β (frz1 H id)/\Ext F w β F' w β/\(Rowish (H id)->∀ c b,β id=some c->c.b=some b->F' b):=by
 have key:∀ blk,Go.LM.frz1 H id id=some blk->Go.LM.frz1 H id=H.set id blk:=fun blk h=>by
  funext j
  by_cases e:j=id
  ·subst e;rw [h,zJ]
  ·rw [frz1_ne e,zH e]
 by_cases hr:Rowish (H id)
 ·rcases hr with ⟨t,xs,fr,h⟩|⟨e,xs,h⟩
  ·obtain ⟨F',g',ex,hf⟩:=g.freeze h
   rw [key (.row t xs true) (by unfold Go.LM.frz1;rw [if_pos rfl,h])]
   exact ⟨F',g',ex,fun _=>hf⟩
  ·obtain ⟨F',g',ex,hf⟩:=g.freezeD h
   rw [key (.row e xs true) (by unfold Go.LM.frz1;rw [if_pos rfl,h])]
   exact ⟨F',g',ex,fun _=>hf⟩
 ·have e:Go.LM.frz1 H id=H:=by
   funext j
   by_cases e:j=id
   ·subst e;exact frz1_self.2 hr
   ·exact frz1_ne e
  rw [e]
  exact ⟨F,g,.refl,fun h=>absurd h hr⟩
theorem freezeL_rowish:∀ (l:List AV) {H:Heap} {j:Nat},Rowish (freezeL l H j)↔Rowish (H j)
 | [],_,_=>Iff.rfl
 |a::l,H,j=>by
  cases a with
  |full id=>exact (freezeL_rowish l).trans frz1_rowish
  |sub id off lo hi=>exact (freezeL_rowish l).trans frz1_rowish
  |_=>exact freezeL_rowish l
theorem frz1_row {H:Heap} {k j:Nat} (h:∃ t xs fr,H j=some (.row t xs fr)):∃ t xs fr,frz1 H k j=some (.row t xs fr):=by
 by_cases e:j=k
 ·subst e
  obtain ⟨t,xs,h⟩:=frz1_self.1 (.inl h)
  exact ⟨t,xs,true,h⟩
 ·rw [frz1_ne e];exact h
theorem freezeL_row:∀ {l:List AV} {H:Heap} {j:Nat},(∃ t xs fr,H j=some (.row t xs fr))->∃ t xs fr,freezeL l H j=some (.row t xs fr)
 | [],_,_,h=>h
 |a::l,H,j,h=>by
  cases a with
  |full id=>exact freezeL_row (l:=l) (frz1_row h)
  |sub id off lo hi=>exact freezeL_row (l:=l) (frz1_row h)
  |_=>exact freezeL_row (l:=l) h
theorem Good.freezeL {X}:∀ (l:List AV) {F:Nat->Prop} {H:Heap},Good X F w β H->∃ F',Good X F' w β (freezeL l H)/\Ext F w β F' w β/\RowsF F' β (freezeL l H) l
 | [],F,H,g=>⟨F,g,.refl,fun id h=>by rcases h with h|⟨_,_,_,h⟩<;>cases h⟩
 |a::l,F,H,g=>by
  have one:∀ id,Go.LM.freezeL (a::l) H=Go.LM.freezeL l (Go.LM.frz1 H id)->(∀ j,a=.full j->j=id)->(∀ j off lo hi,a=.sub j off lo hi->j=id) ->
    ∃ F',Good X F' w β (Go.LM.freezeL (a::l) H)/\Ext F w β F' w β/\RowsF F' β (Go.LM.freezeL (a::l) H) (a::l):=by
   intro id e h1 h2
   obtain ⟨F1,g1,ex1,hf1⟩:=g.frz1 id
   obtain ⟨F',g',ex,hr⟩:=Good.freezeL l g1
   rw [e]
   refine ⟨F',g',ex1.trans ex,fun j hj=>?_⟩
   have hid:j=id->(¬ ∃ e xs,Go.LM.freezeL l (Go.LM.frz1 H id) j=some (.deep e xs none))/\((∃ t xs fr,Go.LM.freezeL l (Go.LM.frz1 H id) j=some (.row t xs fr))->∀ c b,β j=some c->c.b=some b->F' b):=fun ej=>by
    subst ej
    refine ⟨fun ⟨e,xs,h⟩=>?_,fun hrow c b hc hb=>(ex.f b (hf1 (frz1_rowish.1 ((freezeL_rowish l).1 (.inl hrow))) c b hc hb)).1⟩
    obtain ⟨t,ys,h3⟩:=frz1_self.1 (frz1_rowish.1 ((freezeL_rowish l).1 (.inr ⟨e,xs,h⟩)))
    have h4:=freezeL_row (l:=l) ⟨t,ys,true,h3⟩
    obtain ⟨t',ys',fr',h4⟩:=h4
    rw [h] at h4;cases h4
   rcases hj with hj|⟨off,lo,hi,hj⟩
   ·rcases List.mem_cons.1 hj with e|e
    ·exact hid (h1 j e.symm)
    ·exact hr j (.inl e)
   ·rcases List.mem_cons.1 hj with e|e
    ·exact hid (h2 j off lo hi e.symm)
    ·exact hr j (.inr ⟨off,lo,hi,e⟩)
  have other:(∀ id,a≠.full id)->(∀ id off lo hi,a≠.sub id off lo hi)->Go.LM.freezeL (a::l) H=Go.LM.freezeL l H->∃ F',Good X F' w β (Go.LM.freezeL (a::l) H)/\Ext F w β F' w β/\RowsF F' β (Go.LM.freezeL (a::l) H) (a::l):=by
   intro h1 h2 h3
   obtain ⟨F',g',ex,hr⟩:=Good.freezeL l g
   rw [h3]
   refine ⟨F',g',ex,fun id hid=>?_⟩
   rcases hid with hid|⟨off,lo,hi,hid⟩
   ·rcases List.mem_cons.1 hid with e|e
    ·exact absurd e.symm (h1 id)
    ·exact hr id (.inl e)
   ·rcases List.mem_cons.1 hid with e|e
    ·exact absurd e.symm (h2 id off lo hi)
    ·exact hr id (.inr ⟨off,lo,hi,e⟩)
  cases a with
  |full id=>exact one id rfl (fun j e=>by injection e with e;exact e.symm) (fun j _ _ _ e=>by cases e)
  |sub id off lo hi=>exact one id rfl (fun j e=>by cases e) (fun j _ _ _ e=>by injection e with e;exact e.symm)
  |_=>exact other (by intro id e;cases e) (by intro id off lo hi e;cases e) rfl
end
end
end Go.LM
