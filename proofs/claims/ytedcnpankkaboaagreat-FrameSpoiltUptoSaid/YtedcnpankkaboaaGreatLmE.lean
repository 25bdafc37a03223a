/- LmE: LmK1 LmD1 LmD2 LmD3 LmD4 LmD5 LmK2. -/
import Derived.Test.YtedcnpankkaboaaGreatLmD
import Derived.Test.YtedcnpankkaboaaGreatLmB
import Derived.ScopeJumps
import Derived.Scope
set_option linter.unusedSimpArgs false
set_option linter.unusedVariables false
namespace Go.LM
section
def EnvRel (F:Nat->Prop) (w:World) (β:Nat->Option Conc) (env:Nat->AV) (a:Act):Prop:=∀ t,RelV F w β (env t) (a.tmps.getD t undef)
structure StRel (X:Cst) (N pin:Nat) (F0:Nat->Prop) (w0:World) (β0:Nat->Option Conc) (F:Nat->Prop) (w:World) (β:Nat->Option Conc) (env:Nat->AV) (h:Heap) (next:Nat) (a:Act):Prop where
 good:Good X F w β h
 dom:∀ j,β j≠none->j<next
 env:EnvRel F w β env a
 defers:a.defers=X.D
 size:N<=a.tmps.size
 ext:∀ b,F0 b->F b/\cellsAt w b=cellsAt w0 b
 pins:∀ j,j<pin->β j=β0 j
 pinle:pin<=next
def dstOK (N:Nat):Code->Bool
 |.region _ ops _=>ops.toList.all fun o=>match o.dst with|some d=>decide (d<N)|none=>true
 |.seq a b=>dstOK N a&&dstOK N b
 |.cond _ a b=>dstOK N a&&dstOK N b
 |.block _ a=>dstOK N a
 |.loop a=>dstOK N a
 |.scope a=>dstOK N a
 |_=>true
section
variable {F:Nat->Prop} {w:World} {β:Nat->Option Conc}
theorem EnvRel.eval {env:Nat->AV} {a:Act} (h:EnvRel F w β env a) (x:Operand):RelV F w β (evalO env x) (a.eval x):=by
 cases x with
 |tmp t=>exact h t
 |const v=>exact ofVal_rel v
 |global g=>exact .any _
 |func f=>exact .one _ _ rfl (.fn f [] [] .nil)
theorem EnvRel.mono {F' w' β'} {env:Nat->AV} {a:Act} (h:EnvRel F w β env a) (e:Ext F w β F' w' β'):EnvRel F' w' β' env a:=fun t=>(h t).mono e
theorem EnvRel.put {env:Nat->AV} {a:Act} (h:EnvRel F w β env a) {d:Option Nat} {v:AV} {r:Value} (hd:∀ k,d=some k->k<a.tmps.size) (hv:RelV F w β v r):EnvRel F w β (put env d v) (a.put d r):=by
 intro t
 cases d with
 |none=>exact h t
 |some d=>
  have hlt:=hd d rfl
  simp only [LM.put,Act.put]
  by_cases e:t=d
  ·subst e
   simp [hlt];exact hv
  ·rw [if_neg e]
   have:=h t
   simp only [Array.getD_eq_getD_getElem?,Array.getElem?_setIfInBounds_ne (Ne.symm e)] at this ⊢
   exact this
theorem EnvRel.same {env:Nat->AV} {a:Act} (h:EnvRel F w β env a) {g:Nat} {v:AV} (e:env g=v):EnvRel F w β (LM.put env (some g) v) a:=by
 intro t
 simp only [LM.put]
 by_cases e':t=g
 ·subst e';rw [if_pos rfl,←e];exact h t
 ·rw [if_neg e'];exact h t
theorem put_size (a:Act) (d:Option Nat) (v:Value):(a.put d v).tmps.size=a.tmps.size:=by cases d<;>simp [Act.put]
theorem put_defers' (a:Act) (d:Option Nat) (v:Value):(a.put d v).defers=a.defers:=by cases d<;>simp [Act.put]
theorem undef_rel:RelV F w β (.tup []) undef:=.tup [] [] .nil
theorem nodupB_snoc:∀ {l:List Nat} {x:Nat},nodupB l=true->l.contains x=false->nodupB (l++[x])=true
 | [],x,_,_=>by simp [nodupB]
 |y::l,x,h,hx=>by
  simp only [nodupB,Bool.and_eq_true,List.cons_append] at h ⊢
  simp only [List.contains_cons,Bool.or_eq_false_iff] at hx
  refine ⟨?_,nodupB_snoc h.2 hx.2⟩
  have h1:=h.1
  simp only [Bool.not_eq_true',List.contains_eq_mem,decide_eq_false_iff_not,List.mem_append,List.mem_singleton,not_or] at h1 ⊢
  refine ⟨h1,fun e=>?_⟩
  have:=hx.1
  rw [e] at this;simp at this
theorem addNew_spec:∀ (l acc:List Nat),nodupB acc=true->nodupB (addNew acc l)=true/\∃ m,addNew acc l=acc++m
 | [],acc,h=>⟨h,[],by simp [addNew]⟩
 |x::l,acc,h=>by
  simp only [addNew]
  split
  ·exact addNew_spec l acc h
  ·rename_i hc
   obtain ⟨h1,m,h2⟩:=addNew_spec l (acc++[x]) (nodupB_snoc h (by simpa using hc))
   exact ⟨h1,x::m,by rw [h2];simp⟩
theorem reach_spec (h:Heap):∀ (n:Nat) (l:List Nat),nodupB l=true->nodupB (reach h n l)=true/\∃ m,reach h n l=l++m
 |0,l,hl=>⟨hl,[],by simp [reach]⟩
 |n+1,l,hl=>by
  simp only [reach]
  generalize (List.flatMap _ l)=q
  obtain ⟨h1,m,h2⟩:=addNew_spec q l hl
  split
  ·exact ⟨hl,[],by simp⟩
  ·obtain ⟨h3,m',h4⟩:=reach_spec h n _ h1
   exact ⟨h3,m++m',by rw [h4,h2];simp⟩
theorem nodupB_range':∀ (n k:Nat),nodupB (List.range' k n)=true
 |0,k=>by simp [nodupB]
 |n+1,k=>by
  simp only [List.range'_succ,nodupB,Bool.and_eq_true,nodupB_range' n (k+1),and_true]
  simp [List.mem_range']
  omega
theorem nodupB_range (n:Nat):nodupB (List.range n)=true:=by rw [List.range_eq_range'];exact nodupB_range' n 0
theorem Good.renum {X H} (g:Good X F w β H) {live:List Nat} (hcl:closedB H live=true) (hnd:nodupB live=true) :
  Good X F w (fun j=>(live[j]?).bind β) (fun j=>(live[j]?).bind fun id=>(H id).map (renB fun id=>(idxOf id live 0).getD 0)) /\
  ∀ id∈live,∀ c,β id=some c->((live[(idxOf id live 0).getD 0]?).bind β)=some c:=by
 have ren1:∀ id∈live,∀ c,β id=some c->((live[(idxOf id live 0).getD 0]?).bind β)=some c:=fun id hid c hc=>by
  obtain ⟨j,hj⟩:=idxOf_mem (k:=0) hid
  have:=(idxOf_some hj).2
  simp only [Nat.sub_zero] at this
  rw [hj];simp [this,hc]
 have blk:∀ id∈live,∃ blk,H id=some blk/\∀ k∈idsB blk,k∈live:=fun id hid=>by
  have:=List.all_eq_true.1 hcl id hid
  split at this
  ·rename_i blk hb;exact ⟨blk,hb,fun k hk=>all_contains this hk⟩
  ·cases this
 have tell:∀ {j:Nat} {c:Conc},((live[j]?).bind β)=some c->∃ id,live[j]?=some id/\β id=some c:=fun {j c} hj=>by
  cases h:live[j]? with
  |none=>rw [h] at hj;cases hj
  |some id=>rw [h] at hj;exact ⟨id,rfl,hj⟩
 have owns:∀ {j id:Nat} {c b},live[j]?=some id->Owned w c ((live[j]?).bind fun id=>(H id).map (renB fun id=>(idxOf id live 0).getD 0)) b->Owned w c (H id) b:=fun {j id c b} hj ho=>by
  rw [hj] at ho
  exact Owned.renB.1 ho
 refine ⟨⟨fun j c hc=>?_,fun j c b hc ho=>?_,fun j j' c c' b hc hc' ho ho'=>?_,g.fsz,g.fext,g.fmono,g.frame,g.gsz,g.size,g.tame⟩,ren1⟩
 ·obtain ⟨id,hj,hid⟩:=tell hc
  have hm:=List.mem_of_getElem? hj
  obtain ⟨b,hb1,hb2⟩:=g.hr id c hid
  obtain ⟨b',hb1',hin⟩:=blk id hm
  rw [hb1] at hb1';cases hb1'
  refine ⟨_,by rw [hj];simp only [zb];rw [hb1];rfl,hb2.ren (fun b hb=>⟨hb,rfl⟩) (fun k hk=>ren1 k (hin k hk)) (fun _ _=>rfl)⟩
 ·obtain ⟨id,hj,hid⟩:=tell hc
  exact g.own' id c b hid (owns hj ho)
 ·obtain ⟨id,hj,hid⟩:=tell hc
  obtain ⟨id',hj',hid'⟩:=tell hc'
  have:=g.uniq' id id' c c' b hid hid' (owns hj ho) (owns hj' ho')
  subst this
  have e1:=idxOf_get (k:=0) hnd hj
  have e2:=idxOf_get (k:=0) hnd hj'
  rw [e1] at e2
  injection e2 with e2;omega
theorem find_assoc:∀ (vs:List (Nat×AV)) (k:Nat) (v:AV),assoc vs k=v->v=.any\/(k,v)∈vs:=by
 intro vs k v h
 unfold assoc at h
 cases hf:vs.find? (fun p=>p.1 == k) with
 |none=>rw [hf] at h;exact .inl h.symm
 |some p=>
  rw [hf] at h
  right
  have h1:=List.find?_some hf
  have h2:=List.mem_of_find?_eq_some hf
  simp only [beq_iff_eq] at h1
  subst h1;subst h;exact h2
theorem mem_addNew:∀ (l acc:List Nat) (x:Nat),x∈acc\/x∈l->x∈addNew acc l
 | [],acc,x,h=>by simpa [addNew] using h
 |y::l,acc,x,h=>by
  simp only [addNew]
  refine mem_addNew l _ x ?_
  rcases h with h|h
  ·left;split
   ·exact h
   ·simp [h]
  ·simp only [List.mem_cons] at h
   rcases h with rfl|h
   ·left;split
    ·rename_i hc;simpa using hc
    ·simp
   ·exact .inr h
theorem mem_reach (h:Heap) (n:Nat) (l:List Nat) (hl:nodupB l=true) (x:Nat) (hx:x∈l):x∈reach h n l:=by
 obtain ⟨_,m,e⟩:=reach_spec h n l hl
 rw [e];exact List.mem_append_left _ hx
theorem clean0_rel {X:Cst} {N pin:Nat} {F0:Nat->Prop} {w0:World} {β0:Nat->Option Conc} {s s':St} {a:Act} (r:StRel X N pin F0 w0 β0 F w β s.env s.heap s.next a) {keep:List Nat} (h:clean0 pin keep s=some s') :
  ∃ β',StRel X N pin F0 w0 β0 F w β' s'.env s'.heap s'.next a:=by
 unfold clean0 at h
 simp only at h
 split at h
 ·rename_i hcl
  cases h
  generalize hvs:(keep.map fun k=>(k,s.env k))=vs at hcl
  have hst:=addNew_spec (vs.flatMap fun p=>idsA p.2) (List.range pin) (nodupB_range pin)
  obtain ⟨hn1,m1,e1⟩:=hst
  generalize hst':addNew (List.range pin) (vs.flatMap fun p=>idsA p.2)=st at hcl hn1 e1
  obtain ⟨hn2,m2,e2⟩:=reach_spec s.heap 8 st hn1
  have hin:∀ x∈vs.flatMap (fun p=>idsA p.2),x∈reach s.heap 8 st:=fun x hx=>mem_reach _ _ _ hn1 x (by rw [←hst'];exact mem_addNew _ _ _ (.inr hx))
  generalize hlive:reach s.heap 8 st=live at hcl hn2 e2 hin
  obtain ⟨g',ren1⟩:=r.good.renum hcl hn2
  have hheap:heapOf (live.map fun id=>(s.heap id).map (renB fun id=>(idxOf id live 0).getD 0))=(fun j=>(live[j]?).bind fun id=>(s.heap id).map (renB fun id=>(idxOf id live 0).getD 0)):=by
   funext j
   unfold heapOf
   rw [List.getElem?_map]
   cases live[j]?<;>rfl
  rw [←hheap] at g'
  have hlow:∀ j,j<pin->live[j]?=some j:=fun j hj=>by
   rw [e2,e1,List.append_assoc,List.getElem?_append_left (by simpa using hj)]
   simp [hj]
  refine ⟨fun j=>(live[j]?).bind β,g',fun j hj=>?_,fun t=>?_,r.defers,r.size,r.ext,fun j hj=>?_,?_⟩
  ·cases hl:live[j]? with
   |none=>simp [hl] at hj
   |some id=>
    rcases Nat.lt_or_ge j live.length with hlt|hge
    ·exact hlt
    ·rw [List.getElem?_eq_none hge] at hl;cases hl
  ·rcases find_assoc _ t _ rfl with e|hm
   ·show RelV F w _ (assoc (vs.map fun p=>(p.1,renA (fun id=>(idxOf id live 0).getD 0) p.2)) t) _
    rw [e];exact .any _
   ·show RelV F w _ (assoc (vs.map fun p=>(p.1,renA (fun id=>(idxOf id live 0).getD 0) p.2)) t) _
    generalize assoc (vs.map fun p=>(p.1,renA (fun id=>(idxOf id live 0).getD 0) p.2)) t=v at hm
    obtain ⟨p,hp,e⟩:=List.mem_map.1 hm
    have hv:=hp
    rw [←hvs] at hp
    obtain ⟨k,hk,rfl⟩:=List.mem_map.1 hp
    simp only [zP] at e
    obtain ⟨rfl,rfl⟩:=e
    exact (r.env k).ren (fun b hb=>⟨hb,rfl⟩) (fun id hid c hc=>ren1 id (hin id (List.mem_flatMap.2 ⟨_,hv,hid⟩)) c hc)
  ·show (live[j]?).bind β=β0 j
   rw [hlow j hj];exact r.pins j hj
  ·show pin<=live.length
   rw [e2,e1];simp
 ·cases h
theorem clean_rel {X:Cst} {N pin:Nat} {F0:Nat->Prop} {w0:World} {β0:Nat->Option Conc} {s s':St} {a:Act} (r:StRel X N pin F0 w0 β0 F w β s.env s.heap s.next a) {keep:List Nat} (h:clean pin keep s=some s') :
  ∃ β',StRel X N pin F0 w0 β0 F w β' s'.env s'.heap s'.next a:=by
 unfold clean at h
 exact clean0_rel (s:=⟨s.env,settle _ s.heap,s.next⟩) ⟨r.good.settle _,r.dom,r.env,r.defers,r.size,r.ext,r.pins,r.pinle⟩ h
end
end
section
section
variable {H H2:Heap}
theorem exLoad_mono (s:Sub H H2) {P:Program} {T:TypeId} {a r:AV} (h:exLoad P T H a=some r):exLoad P T H2 a=some r:=by
 unfold exLoad at h ⊢
 split at h
 ·exact h
 ·rename_i id p
  (try simp only at h ⊢)
  split at h
  ·rename_i hp
   cases hb:H id with
   |none=>rw [hb] at h;cases h
   |some b=>rw [hb] at h;(try simp only [hp]);rw [s id b hb];exact h
  ·rename_i i o rest hp
   (try simp only [hp])
   cases ha:arrAt H id p.off with
   |none=>rw [ha] at h;cases h
   |some q=>rw [ha] at h;rw [arrAt_mono s ha];exact h
 ·cases h
theorem exIndexAddr_mono (s:Sub H H2) {P:Program} {T:TypeId} {a i r:AV} (h:exIndexAddr P T H a i=some r):exIndexAddr P T H2 a i=some r:=by
 unfold exIndexAddr at h ⊢
 split at h
 ·rename_i k n
  (try simp only at h ⊢)
  split at h
  ·rename_i len e hT
   (try simp only [hT])
   split at h
   ·rename_i id p
    (try simp only at h ⊢)
    cases hp:p.path with
    |nil=>
     simp only [hp] at h ⊢
     cases ha:arrLeaf H id p.off with
     |none=>rw [ha] at h;cases h
     |some q=>rw [ha] at h;rw [arrLeaf_mono s ha];exact h
    |cons c rest=>
     obtain ⟨c1,o⟩:=c
     simp only [hp] at h ⊢
     cases ha:arrAt H id p.off with
     |none=>rw [ha] at h;cases h
     |some z=>rw [ha] at h;rw [arrAt_mono s ha];exact h
   ·exact h
   ·cases h
  ·rename_i e hT
   (try simp only [hT])
   split at h
   ·exact h
   ·rename_i id
    cases ha:arrV H id 0 with
    |none=>rw [ha] at h;cases h
    |some q=>rw [ha] at h;simp only [arrV_mono s ha];exact h
   ·rename_i id off lo hi
    cases ha:arrAt H id off with
    |none=>rw [ha] at h;cases h
    |some q=>rw [ha] at h;simp only [arrAt_mono s ha];exact h
   ·cases h
  ·cases h
 ·cases h
theorem exSlice_mono (s:Sub H H2) {P:Program} {T:TypeId} {a r:AV} {lo hi:Option AV} {mx:Bool} (h:exSlice P T H a lo hi mx=some r):exSlice P T H2 a lo hi mx=some r:=by
 unfold exSlice at h ⊢
 split at h
 ·cases h
 ·rename_i hm
  rw [if_neg hm]
  split at h
  ·rename_i hT;(try simp only [hT]);exact h
  ·rename_i hT;(try simp only [hT]);exact h
  ·rename_i e id hT
   (try simp only [hT])
   cases ha:arrAt H id 0 with
   |none=>rw [ha] at h;cases h
   |some q=>rw [ha] at h;simp only [arrAt_mono s ha];exact h
  ·rename_i e id off b q hT
   (try simp only [hT])
   cases ha:arrAt H id off with
   |none=>rw [ha] at h;cases h
   |some q=>rw [ha] at h;simp only [arrAt_mono s ha];exact h
  ·rename_i n e id p hT
   (try simp only [hT])
   split at h
   ·rename_i hp ha
    simp only [hp,arrLeaf_mono s ha];exact h
   ·cases h
  ·cases h
theorem lenOf_mono (s:Sub H H2) {P:Program} {T:TypeId} {a:AV} {r} (h:lenOf P T H a=some r):lenOf P T H2 a=some r:=by
 unfold lenOf at h ⊢
 split at h
 ·rename_i hT;(try simp only [hT]);exact h
 ·rename_i hT;(try simp only [hT]);exact h
 ·rename_i hT;(try simp only [hT]);exact h
 ·rename_i hT;(try simp only [hT]);exact h
 ·rename_i hT;(try simp only [hT]);exact h
 ·rename_i e id hT
  (try simp only [hT])
  cases ha:arrV H id 0 with
  |none=>rw [ha] at h;cases h
  |some q=>rw [ha] at h;simp only [arrV_mono s ha];exact h
 ·rename_i hT;(try simp only [hT]);exact h
 ·rename_i A x hT
  (try simp only [hT]);exact h
 ·cases h
theorem exBuild_mono (s:Sub H H2) {P:Program} {T:TypeId} {ps:List (Nat×AV)} {r:AV} (h:exBuild P H T ps=some r):exBuild P H2 T ps=some r:=by
 unfold exBuild at h ⊢
 split at h
 ·rename_i hT;(try simp only [hT]);exact h
 ·rename_i n e hT
  (try simp only [hT])
  cases ht:tyC P e with
  |none=>rw [ht] at h;cases h
  |some t=>
   rw [ht] at h
   simp only [zb] at h ⊢
   split at h
   ·cases h
   ·rename_i hr
    rw [if_neg hr]
    cases hz:zeroD P T (.ar n t) with
    |none=>rw [hz] at h;cases h
    |some z=>
     rw [hz] at h
     simp only [zb] at h ⊢
     split at h
     ·rename_i hc
      rw [if_pos hc]
      cases hx:setElems H t ps z with
      |none=>rw [hx] at h;cases h
      |some xs=>rw [hx] at h;rw [setElems_mono s hx];exact h
     ·cases h
 ·cases h
theorem srcOf_mono (s:Sub H H2) {P:Program} {T:TypeId} {t:Ty} {b:AV} {r} (h:srcOf P T H t b=some r):srcOf P T H2 t b=some r:=by
 unfold srcOf at h ⊢
 split at h
 ·rename_i hT;(try simp only [hT]);exact h
 ·rename_i hT;(try simp only [hT]);exact asList_mono s h
 ·cases h
mutual
theorem exportA_mono (s:Sub H H2):∀ {a r:AV},exportA H a=some r->exportA H2 a=some r
 |.full id,r,h=>by
  simp only [exportA] at h ⊢
  split at h
  ·rename_i hr
   rw [if_pos (isRowD_mono s hr)]
   cases ha:arrV H id 0 with
   |none=>rw [ha] at h;cases h
   |some q=>rw [ha] at h;rw [arrV_mono s ha];exact h
  ·cases h
 |.sub id off lo hi,r,h=>by
  simp only [exportA] at h ⊢
  split at h
  ·rename_i hr
   rw [if_pos (isRow_mono s hr)]
   cases ha:elemsOf H (.sub id off lo hi) with
   |none=>rw [ha] at h;cases h
   |some q=>rw [ha] at h;rw [elemsOf_mono s ha];exact h
  ·cases h
 |.agg xs,r,h=>by
  simp only [exportA] at h ⊢
  cases hx:exportL H xs with
  |none=>rw [hx] at h;cases h
  |some q=>rw [hx] at h;rw [exportL_mono s hx];exact h
 |.nilS,r,h=>by simpa only [exportA] using h
 |.dat ..,r,h=>by simpa only [exportA] using h
 |.nilP,r,h=>by simpa only [exportA] using h
 |.nilF,r,h=>by simpa only [exportA] using h
 |.ptr ..,r,h=>by simpa only [exportA] using h
 |.mref ..,r,h=>by simpa only [exportA] using h
 |.fptr ..,r,h=>by simpa only [exportA] using h
 |.nz ..,r,h=>by simpa only [exportA] using h
 |.mp ..,r,h=>by simpa only [exportA] using h
 |.fn ..,r,h=>by simpa only [exportA] using h
 |.tup ..,r,h=>by simpa only [exportA] using h
 |.any,r,h=>by simpa only [exportA] using h
theorem exportL_mono (s:Sub H H2):∀ {l r:List AV},exportL H l=some r->exportL H2 l=some r
 | [],r,h=>by simpa only [exportL] using h
 |a::l,r,h=>by
  simp only [exportL] at h ⊢
  cases ha:exportA H a with
  |none=>rw [ha] at h;cases h
  |some b=>
   rw [ha] at h
   simp only [zb] at h
   cases hl:exportL H l with
   |none=>rw [hl] at h;cases h
   |some q=>rw [hl] at h;rw [exportA_mono s ha];simp only [zb];rw [exportL_mono s hl];exact h
end
theorem exportAll_mono (s:Sub H H2):∀ {m:List Bool} {l r:List AV},exportAll H m l=some r->exportAll H2 m l=some r
 |_,[],r,h=>by simpa only [exportAll] using h
 |true::m,a::l,r,h=>by
  simp only [exportAll] at h ⊢
  cases hl:exportAll H m l with
  |none=>rw [hl] at h;cases h
  |some q=>rw [hl] at h;rw [exportAll_mono s hl];exact h
 |false::m,a::l,r,h=>by
  simp only [exportAll] at h ⊢
  cases ha:exportA H a with
  |none=>rw [ha] at h;cases h
  |some b=>
   rw [ha] at h
   simp only [zb] at h
   cases hl:exportAll H m l with
   |none=>rw [hl] at h;cases h
   |some q=>rw [hl] at h;rw [exportA_mono s ha];simp only [zb];rw [exportAll_mono s hl];exact h
 | [],a::l,r,h=>by
  simp only [exportAll] at h ⊢
  cases ha:exportA H a with
  |none=>rw [ha] at h;cases h
  |some b=>
   rw [ha] at h
   simp only [zb] at h
   cases hl:exportAll H [] l with
   |none=>rw [hl] at h;cases h
   |some q=>rw [hl] at h;rw [exportA_mono s ha];simp only [zb];rw [exportAll_mono s hl];exact h
end
end
section
section
variable {H H2:Heap}
theorem set_same {h:Heap} {id:Nat} {b:Blk} (e:h id=some b):h.set id b=h:=by
 funext j
 unfold Heap.set
 split
 ·rename_i e';subst e';exact e.symm
 ·rfl
def SoftAt (f:Heap->Res) (H:Heap) (id0:Nat) (v:AV) (H':Heap):Prop:=
 (∀ j,¬ (id0<=j/\j<id0+W)->H' j=H j)/\∀ H2,Sub H H2->(∀ j,id0<=j->j<id0+W->H2 j=H' j)->f H2=some (v,H2,false)
theorem softAt_soft {f:Heap->Option AV} {id0 v H' hd} (h:soft H (f H)=some (v,H',hd)) (hm:∀ H2,Sub H H2->∀ r,f H=some r->f H2=some r):SoftAt (fun H=>soft H (f H)) H id0 v H':=by
 obtain ⟨h1,rfl⟩:=soft_some h
 refine ⟨fun _ _=>rfl,fun H2 s _=>?_⟩
 show soft H2 (f H2)=_
 rw [hm H2 s v h1]
 rfl
theorem softAt_const {v':AV} {id0 v H' hd} (h:some (v',H,false)=some (v,H',hd)):SoftAt (fun H=>some (v',H,false)) H id0 v H':=by
 cases h
 exact ⟨fun _ _=>rfl,fun H2 _ _=>rfl⟩
theorem softAt_new {id0:Nat} {b:Blk} {v:AV}:SoftAt (fun H=>some (v,H.set id0 b,false)) H id0 v (H.set id0 b):=by
 refine ⟨fun j hj=>zH (fun e=>hj ⟨by omega,by unfold W;omega⟩),fun H2 s hr=>?_⟩
 show some (v,H2.set id0 b,false)=_
 rw [set_same (by rw [hr id0 (Nat.le_refl _) (by unfold W;omega)];exact zJ)]
theorem frz_none {l:List AV} (h:hasRow l=false) (H:Heap):freezeL l H=H:=by
 funext j
 rw [freezeL_eq,rowIds_none h]
 simp
theorem reach_nil (H:Heap):∀ n,reach H n []=[]
 |0=>rfl
 |n+1=>by simp [reach,addNew]
theorem subH_nil (H:Heap) (f:Nat->Nat):subH H [] f=fun _=>none:=by funext j;simp [subH]
mutual
theorem renA_back {moved:List Nat} {f b:Nat->Nat} (h:∀ id∈moved,b (f id)=id):∀ (a:AV),(∀ id∈idsA a,id∈moved)->renA b (renA f a)=a
 |.full id,hm=>by simp only [renA];rw [h id (hm id (by simp [idsA]))]
 |.sub id _ _ _,hm=>by simp only [renA];rw [h id (hm id (by simp [idsA]))]
 |.ptr id _,hm=>by simp only [renA];rw [h id (hm id (by simp [idsA]))]
 |.mref id,hm=>by simp only [renA];rw [h id (hm id (by simp [idsA]))]
 |.fn g' cs,hm=>by simp only [renA];rw [renL_back h cs (fun id hi=>hm id (by simpa [idsA] using hi))]
 |.agg xs,hm=>by simp only [renA];rw [renL_back h xs (fun id hi=>hm id (by simpa [idsA] using hi))]
 |.tup xs,hm=>by simp only [renA];rw [renL_back h xs (fun id hi=>hm id (by simpa [idsA] using hi))]
 |.dat _ _,_=>rfl
 |.nilS,_=>rfl
 |.nilP,_=>rfl
 |.nilF,_=>rfl
 |.fptr _ _,_=>rfl
 |.nz _ _ _,_=>rfl
 |.mp _ _ _,_=>rfl
 |.any,_=>rfl
theorem renL_back {moved:List Nat} {f b:Nat->Nat} (h:∀ id∈moved,b (f id)=id):∀ (l:List AV),(∀ id∈idsL l,id∈moved)->renL b (renL f l)=l
 | [],_=>rfl
 |a::l,hm=>by
  simp only [renL]
  rw [renA_back h a (fun id hi=>hm id (by simp only [idsL,List.mem_append];exact .inl hi)),renL_back h l (fun id hi=>hm id (by simp only [idsL,List.mem_append];exact .inr hi))]
end
theorem renB_back {moved:List Nat} {f b:Nat->Nat} (h:∀ id∈moved,b (f id)=id) (a:Blk) (hm:∀ id∈idsB a,id∈moved):renB b (renB f a)=a:=by
 cases a with
 |vars cs=>simp only [renB];rw [renL_back (moved:=moved) h cs (fun id hi=>hm id hi)]
 |deep e xs ho=>
  cases ho with
  |none=>rfl
  |some q=>obtain ⟨i,o,id⟩:=q;simp only [renB];rw [h id (hm id (by simp [idsB]))]
 |row t xs fr=>rfl
 |dead=>rfl
 |mapB k v es=>rfl
theorem idx_back {moved:List Nat} {id0:Nat}:∀ id∈moved,backOf moved id0 ((idxOf id moved 0).getD 0)=id:=fun id hid=>by
 obtain ⟨j,hj⟩:=idxOf_mem (k:=0) hid
 have:=(idxOf_some hj).2
 simp only [Nat.sub_zero] at this
 rw [hj]
 unfold backOf
 simp [this]
theorem mergeH_back {H h1:Heap} {moved:List Nat} {id0:Nat} (hcl:closedB H moved=true) (hk:∀ j,j<moved.length->h1 j=subH H moved (fun id=>(idxOf id moved 0).getD 0) j):mergeH H h1 moved id0 moved.length=H:=by
 funext id
 unfold mergeH
 cases hi:idxOf id moved 0 with
 |none=>
  simp only
  rw [if_neg (by omega)]
 |some j=>
  simp only
  obtain ⟨_,h2⟩:=idxOf_some hi
  simp only [Nat.sub_zero] at h2
  have hlt:j<moved.length:=(List.getElem?_eq_some_iff.1 h2).1
  rw [hk j hlt]
  unfold subH
  rw [h2]
  simp only
  have hm:id∈moved:=List.mem_of_getElem? h2
  have hb:=List.all_eq_true.1 hcl id hm
  cases hH:H id with
  |none=>rw [hH] at hb;cases hb
  |some b=>
   rw [hH] at hb
   simp only at hb
   simp only [Option.map_some]
   rw [renB_back (moved:=moved) idx_back b (fun k hk=>all_contains hb hk)]
theorem reach_sub {H H2:Heap} (s:Sub H H2):∀ (n:Nat) (l:List Nat),nodupB l=true->(∀ id∈reach H n l,H id≠none)->reach H2 n l=reach H n l
 |0,l,_,_=>rfl
 |n+1,l,hl,h=>by
  have hl2:∀ id∈l,H id≠none:=fun id hid=>by
   obtain ⟨_,m,e⟩:=reach_spec H (n+1) l hl
   exact h id (by rw [e];simp [hid])
  have he:(l.flatMap fun id=>match H2 id with|some b=>idsB b|none=>[])=(l.flatMap fun id=>match H id with|some b=>idsB b|none=>[]):=by
   have:∀ (l:List Nat),(∀ id∈l,H id≠none)->(l.flatMap fun id=>match H2 id with|some b=>idsB b|none=>[])=(l.flatMap fun id=>match H id with|some b=>idsB b|none=>[]):=by
    intro l
    induction l with
    |nil=>intro _;rfl
    |cons x r ih=>
     intro hr
     rw [List.flatMap_cons,List.flatMap_cons,ih (fun id hid=>hr id (by simp [hid]))]
     cases hx:H x with
     |none=>exact absurd hx (hr x (by simp))
     |some b=>rw [s x b hx]
   exact this l hl2
  have hd:∀ H:Heap,reach H (n+1) l=if (addNew l (l.flatMap fun id=>match H id with|some b=>idsB b|none=>[])).length=l.length then l else reach H n (addNew l (l.flatMap fun id=>match H id with|some b=>idsB b|none=>[])):=fun H=>rfl
  rw [hd H] at h
  rw [hd H2,hd H]
  have he2:=he
  generalize hq:(l.flatMap fun id=>match H id with|some b=>idsB b|none=>[])=q at h he ⊢
  rw [he]
  split
  ·rfl
  ·rename_i hne
   rw [if_neg hne] at h
   exact reach_sub s n _ (addNew_spec _ _ hl).1 h
theorem exCall0_soft {cx:Cx} {f:FuncId} {args:List AV} {id0:Nat} {v:AV} {H':Heap} (h:exCall0 cx f args H id0=some (v,H',false)):SoftAt (fun H=>exCall0 cx f args H id0) H id0 v H':=by
 unfold exCall0 at h
 cases has:exportAll H (cx.own f) args with
 |none=>rw [has] at h;cases h
 |some as=>
 rw [has] at h
 simp only [zb] at h
 split at h
 ·rename_i hchk
  cases hr:cx.run f (renL (fun id=>(idxOf id (reach H 8 (addNew [] (idsL as))) 0).getD 0) as) (reach H 8 (addNew [] (idsL as))).length (subH H (reach H 8 (addNew [] (idsL as))) fun id=>(idxOf id (reach H 8 (addNew [] (idsL as))) 0).getD 0) with
  |none=>rw [hr] at h;cases h
  |some q=>
  obtain ⟨r,h1,n1⟩:=q
  rw [hr] at h
  simp only [zb] at h
  split at h
  ·rename_i hn1
   simp only [zS,zP,Bool.or_eq_false_iff] at h
   obtain ⟨hv,hH,hfr,hmv0⟩:=h
   rw [hfr] at hH
   simp only [Bool.false_eq_true,if_false] at hH
   cases hro:cx.ro f with
   |true=>
    obtain ⟨hn,hkeep⟩:=cx.roOK _ _ _ _ _ _ _ hro hr
    have hchk2:=hchk
    simp only [Bool.and_eq_true,decide_eq_true_eq] at hchk2
    obtain ⟨⟨⟨⟨⟨hclosed,hnodup⟩,hargs⟩,hlent⟩,hlow⟩,hrows⟩:=hchk2
    have hHH:H'=H:=by
     rw [←hH,hn]
     exact mergeH_back hclosed hkeep
    subst hHH
    refine ⟨fun j hj=>rfl,fun H2 s hrng=>?_⟩
    show exCall0 cx f args H2 id0=_
    have hnn:∀ id∈reach H' 8 (addNew [] (idsL as)),H' id≠none:=fun id hid=>by
     have:=List.all_eq_true.1 hclosed id hid
     cases hb:H' id with
     |none=>rw [hb] at this;cases this
     |some b=>intro e;cases e
    have hre:=reach_sub s 8 (addNew [] (idsL as)) (addNew_spec _ [] rfl).1 hnn
    have hsub:subH H2 (reach H' 8 (addNew [] (idsL as))) (fun id=>(idxOf id (reach H' 8 (addNew [] (idsL as))) 0).getD 0)=subH H' (reach H' 8 (addNew [] (idsL as))) (fun id=>(idxOf id (reach H' 8 (addNew [] (idsL as))) 0).getD 0):=by
     funext j
     unfold subH
     cases hj:(reach H' 8 (addNew [] (idsL as)))[j]? with
     |none=>rfl
     |some id=>
      simp only
      cases hb:H' id with
      |none=>exact absurd hb (hnn id (List.mem_of_getElem? hj))
      |some b=>rw [s id b hb]
    have hcl2:closedB H2 (reach H' 8 (addNew [] (idsL as)))=true:=by
     unfold closedB
     rw [List.all_eq_true]
     intro id hid
     have:=List.all_eq_true.1 hclosed id hid
     cases hb:H' id with
     |none=>rw [hb] at this;cases this
     |some b=>rw [hb] at this;rw [s id b hb];exact this
    unfold exCall0
    rw [exportAll_mono s has]
    simp only [zb]
    rw [hre,hsub,hr]
    have hrows':((lentRows (cx.own f) args).filter rowOnly).all (isRowD H2)=true:=List.all_eq_true.2 fun a ha=>isRowDA_mono s (List.all_eq_true.1 hrows a ha)
    rw [if_pos (by rw [hcl2,hnodup,hargs,hlent,hlow,hrows'];rfl)]
    simp only [zb]
    rw [if_pos hn1,hfr,hv,hro,hn,mergeH_back hcl2 (fun j hj=>by rw [hsub];exact hkeep j hj)]
    simp
   |false=>
   rw [hro] at hmv0
   have hmv:((reach H 8 (addNew [] (idsL as))) != [])=false:=by simpa using hmv0
   have hmv':reach H 8 (addNew [] (idsL as))=[]:=by simpa using hmv
   have hadd:addNew [] (idsL as)=[]:=by
    obtain ⟨_,m,e⟩:=reach_spec H 8 (addNew [] (idsL as)) (addNew_spec _ [] rfl).1
    rw [hmv'] at e
    have:=congrArg List.length e
    simp at this
    exact List.eq_nil_of_length_eq_zero (by omega)
   rw [hmv'] at hchk hn1 hv hH hr
   rw [subH_nil] at hr
   simp only [Bool.and_eq_true,decide_eq_true_eq] at hchk hn1
   obtain ⟨⟨⟨⟨⟨hclosed,hnodup⟩,hargs⟩,hlent⟩,hlow⟩,hrows⟩:=hchk
   subst hH
   refine ⟨fun j hj=>?_,fun H2 s hrng=>?_⟩
   ·unfold mergeH
    simp only [idxOf]
    rw [if_neg]
    intro hc
    refine hj ⟨hc.1,?_⟩
    have:=hn1.1
    unfold W
    simp only [List.length_nil] at this hc
    omega
   ·show exCall0 cx f args H2 id0=_
    unfold exCall0
    rw [exportAll_mono s has]
    simp only [zb]
    have hre:reach H2 8 (addNew [] (idsL as))=[]:=by rw [hadd];exact reach_nil H2 8
    rw [hre,subH_nil,hr]
    have hrows':((lentRows (cx.own f) args).filter rowOnly).all (isRowD H2)=true:=List.all_eq_true.2 fun a ha=>isRowDA_mono s (List.all_eq_true.1 hrows a ha)
    have hm:mergeH H2 h1 [] id0 n1=H2:=by
     funext j
     unfold mergeH
     simp only [idxOf]
     split
     ·rename_i hc
      have hlt:j<id0+W:=by
       have:=hn1.1
       unfold W
       simp only [List.length_nil] at this hc
       omega
      rw [hrng j hc.1 hlt]
      unfold mergeH
      simp only [idxOf]
      rw [if_pos hc]
     ·rfl
    rw [if_pos (by rw [hnodup,hargs,hlent,hlow,hrows'];rfl)]
    simp only [zb]
    rw [if_pos (by simp only [Bool.and_eq_true,decide_eq_true_eq];exact hn1),hfr,hv,hm]
    simp
  ·cases h
 ·cases h
theorem exCall_soft {cx:Cx} {f:FuncId} {args:List AV} {id0:Nat} {v:AV} {H':Heap} (h:exCall cx f args H id0=some (v,H',false)):SoftAt (fun H=>exCall cx f args H id0) H id0 v H':=by
 unfold exCall at h
 split at h
 ·rename_i r hr
  cases h
  obtain ⟨h1,h2⟩:=exCall0_soft hr
  refine ⟨h1,fun H2 s hrng=>?_⟩
  have:=h2 H2 s hrng
  show exCall cx f args H2 id0=_
  unfold exCall
  simp only at this
  rw [this]
 ·simp only at h
  split at h
  ·obtain ⟨q,_,h2⟩:=zM.1 h
   simp at h2
  ·cases h
theorem exLoadAny_soft {P:Program} {T:TypeId} {id0:Nat} {a v:AV} {H':Heap} (h:exLoadAny P T H id0 a=some (v,H',false)):SoftAt (fun H=>exLoadAny P T H id0 a) H id0 v H':=by
 unfold exLoadAny at h
 split at h
 ·rename_i id i o hd
  unfold exLoadD at h
  obtain ⟨u,hT,h⟩:=zB.1 h
  split at h
  ·obtain ⟨q,_,h⟩:=zB.1 h
   obtain ⟨y,_,h⟩:=zM.1 h
   simp at h
  ·rename_i hq
   split at h
   ·obtain ⟨q,_,h⟩:=zB.1 h
    obtain ⟨y,_,h⟩:=zM.1 h
    simp at h
   ·rename_i hu
    split at h
    ·rename_i e xs hole hH
     obtain ⟨y,hy,h⟩:=zM.1 h
     simp only [zP,and_true] at h
     obtain ⟨rfl,rfl⟩:=h
     refine ⟨fun _ _=>rfl,fun H2 s _=>?_⟩
     have hd2:deepAt H2 a=some (id,i,o):=by
      unfold deepAt at hd ⊢
      split at hd
      ·rename_i id' p
       (try simp only at hd ⊢)
       split at hd
       ·rename_i i' o' hp
        (try simp only [hp])
        split at hd
        ·rename_i hc
         cases hd
         have hs:=s id _ hH
         rw [if_pos ⟨hc.1,by unfold isDeep;rw [hs]⟩]
        ·cases hd
       ·cases hd
      ·cases hd
     show exLoadAny P T H2 id0 a=_
     unfold exLoadAny
     rw [hd2]
     show exLoadD P T H2 id0 id i o=_
     unfold exLoadD
     rw [hT]
     simp only [zb,hq]
     rw [if_neg hu,s id _ hH]
     simp only [hy,Option.map_some]
    ·cases h
 ·rename_i hd
  obtain ⟨h1,rfl⟩:=soft_some h
  refine ⟨fun _ _=>rfl,fun H2 s _=>?_⟩
  have hd2:deepAt H2 a=none:=by
   cases hd2:deepAt H2 a with
   |none=>rfl
   |some q=>
    exfalso
    unfold deepAt at hd hd2
    split at hd2
    ·rename_i id p
     (try simp only at hd)
     split at hd2
     ·rename_i i o hp
      (try simp only [hp] at hd)
      split at hd2
      ·rename_i hc
       split at hd
       ·cases hd
       ·rename_i hn
        unfold exLoad at h1
        simp only [hp] at h1
        unfold arrAt at h1
        cases hb:H' id with
        |none=>rw [hb] at h1;cases h1
        |some b=>
         have hb2:=s id b hb
         apply hn
         refine ⟨hc.1,?_⟩
         have:=hc.2
         unfold isDeep at this ⊢
         rw [hb];rw [hb2] at this;exact this
      ·cases hd2
     ·cases hd2
    ·cases hd2
  show exLoadAny P T H2 id0 a=_
  unfold exLoadAny
  rw [hd2]
  show soft H2 (exLoad P T H2 a)=_
  rw [exLoad_mono s h1];rfl
theorem exMakeD_soft {P:Program} {T:TypeId} {id0:Nat} {a b v:AV} {H':Heap} {hd:Bool} (h:exMakeD P T H id0 a b=some (v,H',hd)):SoftAt (fun H=>exMakeD P T H id0 a b) H id0 v H':=by
 unfold exMakeD at h
 split at h
 ·rename_i i x j y
  obtain ⟨⟨e,u⟩,hT,h⟩:=zB.1 h
  obtain ⟨z,hz,h⟩:=zB.1 h
  (try simp only at h)
  split at h
  ·rename_i hb
   split at h
   ·cases h
   ·rename_i hb0
    simp only [zS,zP] at h
    obtain ⟨rfl,rfl,rfl⟩:=h
    have:=softAt_new (H:=H) (id0:=id0) (b:=.deep u (List.replicate (toI i x).toNat z) none) (v:=.full id0)
    refine ⟨this.1,fun H2 s hr=>?_⟩
    have h2:=this.2 H2 s hr
    show exMakeD P T H2 id0 _ _=_
    unfold exMakeD
    simp only [hT,hz,zb]
    rw [if_pos hb,if_neg hb0]
    exact h2
  ·cases h
 ·cases h
theorem mapOfA_mono {k v:Ty} {H H2:Heap} (s:Sub H H2) {a:AV} {r} (h:mapOfA k v H a=some r):mapOfA k v H2 a=some r:=by
 unfold mapOfA at h ⊢
 split at h
 ·split at h
  ·rename_i hH
   simp only [s _ _ hH]
   exact h
  ·cases h
 ·cases h
theorem exLookup_mono {P:Program} {T:TypeId} {H H2:Heap} (s:Sub H H2) {a x:AV} {ok:Bool} {r:AV} (h:exLookup P T H a x ok=some r):exLookup P T H2 a x ok=some r:=by
 unfold exLookup at h ⊢
 obtain ⟨⟨k,v,E⟩,hT,p1⟩:=zB.1 h
 obtain ⟨q,hM,p2⟩:=zB.1 p1
 rw [hT]
 simp only [zb]
 rw [mapOfA_mono s hM]
 exact p2
theorem exMakeMap_soft {P:Program} {T:TypeId} {H:Heap} {id0:Nat} {r:Option AV} {v:AV} {H':Heap} (h:exMakeMap P T H id0 r=some (v,H',false)):SoftAt (fun H=>exMakeMap P T H id0 r) H id0 v H':=by
 unfold exMakeMap at h
 obtain ⟨⟨k,vt,E⟩,hT,p1⟩:=zB.1 h
 have key:v=.mref id0/\H'=H.set id0 (.mapB k vt [])/\∀ H2:Heap,exMakeMap P T H2 id0 r=some (.mref id0,H2.set id0 (.mapB k vt []),false):=by
  simp only at p1
  split at p1
  ·cases p1;exact ⟨rfl,rfl,fun H2=>by unfold exMakeMap;rw [hT];rfl⟩
  ·cases p1;exact ⟨rfl,rfl,fun H2=>by unfold exMakeMap;rw [hT];rfl⟩
  ·cases p1
 obtain ⟨rfl,rfl,hk⟩:=key
 have:=softAt_new (H:=H) (id0:=id0) (b:=.mapB k vt []) (v:=.mref id0)
 refine ⟨this.1,fun H2 s hr=>?_⟩
 show exMakeMap P T H2 id0 r=_
 rw [hk H2]
 exact this.2 H2 s hr
theorem exEmpty_soft {P:Program} {T:TypeId} {id0:Nat} {a v:AV} {lo hi mx:Option AV} {H':Heap} {hd:Bool} (h:exEmpty P T H id0 a lo hi mx=some (v,H',hd)):SoftAt (fun H=>exEmpty P T H id0 a lo hi mx) H id0 v H':=by
 have fin:∀ {t:Ty},some (AV.full id0,H.set id0 (.row t [] false),false)=some (v,H',hd)->(∀ H2,Sub H H2->exEmpty P T H2 id0 a lo hi mx=some (AV.full id0,H2.set id0 (.row t [] false),false))->SoftAt (fun H=>exEmpty P T H id0 a lo hi mx) H id0 v H':=by
  intro t h hm
  simp only [zS,zP] at h
  obtain ⟨rfl,rfl,rfl⟩:=h
  have:=softAt_new (H:=H) (id0:=id0) (b:=.row t [] false) (v:=.full id0)
  refine ⟨this.1,fun H2 s hr=>?_⟩
  show exEmpty P T H2 id0 _ _ _ _=_
  rw [hm H2 s]
  exact this.2 H2 s hr
 unfold exEmpty at h
 split at h
 ·rename_i e hT
  split at h
  ·split at h
   ·rename_i hc
    exact fin h fun H2 s=>by unfold exEmpty;simp only [hT,hc,if_true]
   ·cases h
  ·split at h
   ·rename_i t ht
    split at h
    ·rename_i hc
     exact fin h fun H2 s=>by unfold exEmpty;simp only [hT,ht,hc,if_true]
    ·cases h
   ·cases h
  ·split at h
   ·rename_i ha
    split at h
    ·rename_i hc
     exact fin h fun H2 s=>by unfold exEmpty;simp only [hT,arrAt_mono s ha,hc,if_true]
    ·cases h
   ·cases h
  ·split at h
   ·rename_i ha
    split at h
    ·rename_i hc
     exact fin h fun H2 s=>by unfold exEmpty;simp only [hT,arrAt_mono s ha,hc,if_true]
    ·cases h
   ·cases h
  ·cases h
 ·cases h
theorem exAppend_told {P:Program} {T U:TypeId} {id0 idb:Nat} {a:AV} {r} (h:exAppend P T U H id0 a (.full idb)=some r):H idb≠none:=by
 unfold exAppend at h
 obtain ⟨⟨e,t⟩,_,h⟩:=zB.1 h
 obtain ⟨z,_,h⟩:=zB.1 h
 (try simp only at h)
 split at h
 ·cases h
 ·obtain ⟨ys,hs,_⟩:=zB.1 h
  unfold srcOf at hs
  split at hs
  ·cases hs
  ·intro hn
   simp [asList,elemsOf,arrAt,hn] at hs
  ·cases hs
theorem exConvert_soft {P:Program} {src dst:TypeId} {id0:Nat} {a v:AV} {H':Heap} {hd:Bool} (h:exConvert P src dst H id0 a=some (v,H',hd)):SoftAt (fun H=>exConvert P src dst H id0 a) H id0 v H':=by
 unfold exConvert at h ⊢
 split at h
 ·rename_i k1 k2 hs hd'
  (try simp only [hs,hd'])
  cases a<;>first
   |(rename_i t x;cases t<;>first|exact softAt_const h|cases h)
   |cases h
 ·rename_i hs hd'
  (try simp only [hs,hd'])
  cases a<;>first
   |(rename_i t x;cases t<;>first|exact softAt_const h|cases h)
   |cases h
 ·rename_i e hs hd'
  (try simp only [hs,hd'])
  split at h
  ·rename_i hel
   simp only [hel,if_true]
   cases hx:asList H (.int .u8) a with
   |none=>rw [hx] at h;cases h
   |some xs=>
    rw [hx] at h
    cases h
    refine ⟨fun _ _=>rfl,fun H2 s _=>?_⟩
    simp only
    rw [asList_mono s hx]
    rfl
  ·cases h
 ·rename_i e hs hd'
  (try simp only [hs,hd'])
  split at h
  ·rename_i hel
   simp only [hel,if_true]
   cases a<;>first
    |(rename_i t x;cases t<;>first|(cases h;exact softAt_new)|cases h)
    |cases h
  ·cases h
 ·rename_i e0 e hs hd'
  (try simp only [hs,hd'])
  split at h
  ·rename_i hel
   simp only [if_pos hel]
   split at h
   ·rename_i id
    split at h
    ·rename_i t x0 xs0 hH
     cases h
     refine ⟨fun _ _=>rfl,fun H2 s _=>?_⟩
     simp only [s id _ hH]
    ·cases h
   ·cases h
  ·cases h
 ·cases h
theorem exAppend_soft {P:Program} {T U:TypeId} {id0:Nat} {a b v:AV} {H':Heap} (h:exAppend P T U H id0 a b=some (v,H',false)):SoftAt (fun H=>exAppend P T U H id0 a b) H id0 v H':=by
 unfold exAppend at h ⊢
 cases hT:elemTy P T with
 |none=>rw [hT] at h;cases h
 |some q=>
 obtain ⟨e,t⟩:=q
 simp only [hT,zb] at h ⊢
 cases hz:zeroD P e t with
 |none=>rw [hz] at h;cases h
 |some z=>
 simp only [hz,zb] at h ⊢
 split at h
 ·cases h
 ·rename_i hb
  simp only [hb,if_false]
  cases hs:srcOf P U H t b with
  |none=>rw [hs] at h;cases h
  |some ys=>
   rw [hs] at h
   simp only [zb] at h
   cases a with
   |nilS=>
    simp only at h
    split at h
    ·rename_i hc
     cases h
     refine ⟨fun j hj=>zH (fun e=>hj ⟨by omega,by unfold W;omega⟩),fun H2 s hr=>?_⟩
     simp only
     rw [srcOf_mono s hs]
     simp only [zb]
     rw [if_pos hc,set_same (by rw [hr id0 (Nat.le_refl _) (by unfold W;omega)];exact zJ)]
    ·cases h
   |full id=>
    simp only at h
    split at h
    ·rename_i u xs hH
     cases hx:castL (u:=t) xs with
     |none=>rw [hx] at h;cases h
     |some zs=>
      rw [hx] at h
      simp only [zb] at h
      split at h
      ·simp at h
      ·cases h
    ·cases h
   |_=>cases h
theorem exOp_soft {cx:Cx} {ρ:Operand->AV} {o:Op} {T:TypeId} {id0:Nat} {v:AV} {H':Heap} (h:exOp cx ρ o T H id0=some (v,H',false)):SoftAt (fun H=>exOp cx ρ o T H id0) H id0 v H':=by
 cases o<;>simp only [exOp] at h ⊢
 case move x=>exact softAt_const h
 case assign x=>exact softAt_const h
 case pick c a b=>
  split at h
  ·rename_i hc;(try simp only [hc]);exact softAt_const h
  ·rename_i hc;(try simp only [hc]);exact softAt_const h
  ·cases h
 case alloc e=>
  cases hz:zeroL cx.P e with
  |none=>rw [hz] at h;cases h
  |some l=>
   simp only [hz,zb] at h ⊢
   split at h
   ·rename_i hf;simp only [hf,if_true];cases h;exact softAt_new
   ·cases h
 case box e x=>
  split at h
  ·rename_i hc;simp only [hc,and_self,not_false_eq_true,ne_eq,if_true];cases h;exact softAt_new
  ·cases h
 case build t ps=>exact softAt_soft (f:=fun H=>exBuild cx.P H t (ps.toList.map fun (i,x)=>(i,ρ x))) h fun H2 s r hr=>exBuild_mono s hr
 case buildSlice t n ps=>
  cases hlit:cx.deep (t+litT) with
  |true=>
   rw [hlit] at h
   simp only at h ⊢
   exact softAt_soft (f:=fun _=>exLit cx.P t n (ps.toList.map fun (i,x)=>(i,ρ x))) h fun H2 s r hr=>hr
  |false=>
  rw [hlit] at h
  simp only at h ⊢
  cases hdp:deep1 (cx.deep t) n ps.toList with
  |some x=>
  rw [hdp] at h
  simp only at h
  exfalso
  unfold exBuildD at h
  obtain ⟨⟨e,u⟩,_,h⟩:=zB.1 h
  (try simp only at h)
  split at h
  ·cases h
  ·split at h
   ·split at h
    ·obtain ⟨z,_,h⟩:=zB.1 h
     simp at h
    ·cases h
   ·cases h
  |none=>
  rw [hdp] at h
  simp only [hdp] at h ⊢
  cases hT:elemTy cx.P t with
  |none=>rw [hT] at h;cases h
  |some q=>
  obtain ⟨e,u⟩:=q
  simp only [hT,zb] at h ⊢
  cases hz:zeroD cx.P e u with
  |none=>rw [hz] at h;cases h
  |some z=>
  simp only [hz,zb] at h ⊢
  split at h
  ·cases h
  ·rename_i hc
   simp only [hc,if_false]
   cases hx:setElems (freezeL (ps.toList.flatMap fun p=>(ρ p.2).leaves) H) u (ps.toList.map fun p=>(p.1,ρ p.2)) (List.replicate n z) with
   |none=>rw [hx] at h;cases h
   |some xs=>
    rw [hx] at h
    simp only [Option.map_some,zS,zP] at h
    obtain ⟨h1,h2,h3⟩:=h
    rw [frz_none h3] at hx h2
    subst h1;subst h2
    refine ⟨fun j hj=>zH (fun e=>hj ⟨by omega,by unfold W;omega⟩),fun H2 s hr=>?_⟩
    simp only
    rw [frz_none h3,setElems_mono s hx]
    simp only [Option.map_some]
    rw [set_same (by rw [hr id0 (Nat.le_refl _) (by unfold W;omega)];exact zJ),h3]
 case load t a=>exact exLoadAny_soft h
 case store t b x=>
  cases hs:exStoreAny cx.P t H (ρ b) (ρ x) with
  |none=>rw [hs] at h;cases h
  |some h'=>rw [hs] at h;simp at h
 case nilCheck x=>
  split at h
  ·rename_i hc;(try simp only [hc]);exact softAt_const h
  ·rename_i hc;(try simp only [hc]);exact softAt_const h
  ·rename_i hc;(try simp only [hc]);exact softAt_const h
  ·rename_i hc;(try simp only [hc]);exact softAt_const h
  ·cases h
 case binOp op t x y u=>exact softAt_soft (f:=fun _=>exBin cx.P t op (ρ x) (ρ y)) h fun H2 s r hr=>hr
 case unOp op t x=>exact softAt_soft (f:=fun _=>exUn op (ρ x)) h fun H2 s r hr=>hr
 case convert s t x=>exact exConvert_soft h
 case makeFunc fn first caps=>
  cases fn with
  |func f=>
   simp only at h ⊢
   split at h
   ·rename_i h0;simp only [h0,if_true];exact softAt_const h
   ·cases h
  |_=>cases h
 case makeSlice t l c=>
  cases hlit:cx.deep (t+litT) with
  |true=>
   rw [hlit] at h
   simp only at h ⊢
   exact softAt_soft (f:=fun _=>exMakeDat cx.P t (ρ l) (ρ c)) h fun H2 s r hr=>hr
  |false=>
  rw [hlit] at h
  simp only at h ⊢
  by_cases hdp:cx.deep t=true
  ·rw [if_pos hdp] at h
   simp only [hdp,if_true]
   exact exMakeD_soft h
  simp only [if_neg hdp] at h ⊢
  split at h
  ·rename_i i x j y e1 e2
   (try simp only [e1,e2])
   cases hT:elemTy cx.P t with
   |none=>rw [hT] at h;cases h
   |some q=>
   obtain ⟨e,u⟩:=q
   simp only [hT,zb] at h ⊢
   cases hz:zeroD cx.P e u with
   |none=>rw [hz] at h;cases h
   |some z=>
   simp only [hz,zb] at h ⊢
   split at h
   ·rename_i hb
    simp only [hb,and_self,if_true]
    split at h
    ·cases h
    ·rename_i hb0
     simp only [hb0,if_false]
     cases h
     exact softAt_new
   ·cases h
  ·cases h
 case slice t x lo hi mx=>
  cases mx with
  |some m=>
   cases lo with
   |none=>exact exEmpty_soft h
   |some l=>exact softAt_soft (f:=fun _=>exSlice3 cx.P t (ρ x) (some (ρ l)) (hi.map ρ) (some (ρ m))) h fun H2 s r hr=>hr
  |none=>exact softAt_soft (f:=fun H=>exSlice cx.P t H (ρ x) (lo.map ρ) (hi.map ρ) false) h fun H2 s r hr=>exSlice_mono s hr
 case fieldAddr s x f=>exact softAt_soft (f:=fun _=>exFieldAddr cx.P s (ρ x) f) h fun H2 s r hr=>hr
 case field s x f=>exact softAt_soft (f:=fun _=>exField cx.P s (ρ x) f) h fun H2 s r hr=>hr
 case indexAddr t x i=>exact softAt_soft (f:=fun H=>exIndexAddr cx.P t H (ρ x) (ρ i)) h fun H2 s r hr=>exIndexAddr_mono s hr
 case index t x i=>exact softAt_soft (f:=fun _=>exIndex cx.P t (ρ x) (ρ i)) h fun H2 s r hr=>hr
 case makeMap t r=>exact exMakeMap_soft h
 case lookup t x i ok=>exact softAt_soft (f:=fun H=>exLookup cx.P t H (ρ x) (ρ i) ok) h fun H2 s r hr=>exLookup_mono s hr
 case mapUpdate t m x b=>
  cases hs:exMapUpdate cx.P t H (ρ m) (ρ x) (ρ b) with
  |none=>rw [hs] at h;cases h
  |some h'=>rw [hs] at h;simp at h
 case insert t m x b=>
  cases hs:exMapUpdate cx.P t H (ρ m) (ρ x) (ρ b) with
  |none=>rw [hs] at h;cases h
  |some h'=>rw [hs] at h;simp at h
 case extract x i=>
  split at h
  ·rename_i xs e;(try simp only [e]);exact softAt_soft (f:=fun _=>xs[i]?) h fun H2 s r hr=>hr
  ·cases h
 case call c=>
  split at h
  ·rename_i f hf
   (try simp only [hf])
   split at h
   ·rename_i q caps e
    (try simp only [e])
    exact exCall_soft h
   ·cases h
  ·rename_i b hb
   (try simp only [hb])
   unfold exBuiltin at h ⊢
   split at h
   ·rename_i x e1
    (try simp only [e1])
    split at h
    ·rename_i A e2
     (try simp only [e2])
     exact softAt_soft (f:=fun H=>(lenOf cx.P A H x).map fun n=>.dat (.int .i64) n) h fun H2 s r hr=>by
      cases hl:lenOf cx.P A H x with
      |none=>rw [hl] at hr;cases hr
      |some n=>rw [hl] at hr;rw [lenOf_mono s hl];exact hr
    ·cases h
   ·rename_i x y e1
    (try simp only [e1])
    split at h
    ·rename_i A B e2
     (try simp only [e2])
     have hy:∀ idb,y=.full idb->isDeep H idb=false:=fun idb hy=>by
      subst hy
      simp only at h
      split at h
      ·exfalso
       unfold exAppendD at h
       split at h
       ·obtain ⟨⟨e,u⟩,_,h⟩:=zB.1 h
        obtain ⟨z,_,h⟩:=zB.1 h
        (try simp only at h)
        split at h
        ·cases h
        ·split at h
         ·split at h
          ·obtain ⟨q,_,h⟩:=zB.1 h
           split at h
           ·simp at h
           ·cases h
          ·cases h
         ·split at h
          ·cases h
          ·obtain ⟨⟨a1,a2,a3⟩,_,h⟩:=zB.1 h
           (try simp only at h)
           split at h
           ·obtain ⟨q,_,h⟩:=zB.1 h
            obtain ⟨q2,_,h⟩:=zB.1 h
            split at h
            ·simp at h
            ·cases h
           ·cases h
         ·cases h
       ·cases h
      ·rename_i hn;simpa using hn
     have hap:exAppend cx.P A B H id0 x y=some (v,H',false):=by
      split at h
      ·rename_i idb
       rw [hy idb rfl] at h
       simpa using h
      ·exact h
     obtain ⟨q1,q2⟩:=exAppend_soft hap
     refine ⟨q1,fun H2 s hr=>?_⟩
     have q3:=q2 H2 s hr
     simp only at q3
     rw [←q3]
     cases y with
     |full idb=>
      have hne:=exAppend_told hap
      have hd2:isDeep H2 idb=false:=by
       cases hb:H idb with
       |none=>exact absurd hb hne
       |some b=>
        have:=hy idb rfl
        unfold isDeep at this ⊢
        rw [hb] at this;rw [s idb b hb];exact this
      simp only [hd2,Bool.false_eq_true,if_false]
     |_=>rfl
    ·cases h
   ·rename_i x y e1
    split at h
    ·rename_i A B e2
     exfalso
     unfold exCopy at h
     cases hT:elemTy cx.P A with
     |none=>rw [hT] at h;cases h
     |some q=>
      obtain ⟨e,t⟩:=q
      rw [hT] at h
      simp only [zb] at h
      obtain ⟨z,_,h⟩:=zB.1 h
      ·obtain ⟨id,off,lo,hi⟩:=z
       simp only at h
       split at h
       ·rename_i u xs hA
        cases hx:castL (u:=t) xs with
        |none=>rw [hx] at h;cases h
        |some zs=>
         rw [hx] at h
         simp only [zb] at h
         cases hs:srcOf cx.P B H t y with
         |none=>rw [hs] at h;cases h
         |some ys=>
          rw [hs] at h
          simp only [zb] at h
          generalize setArr H id off t (zs.take lo.toNat++(ys.take (hi - lo).toNat++zs.drop (lo.toNat+min ys.length (hi - lo).toNat)))=w at h
          cases w with
          |none=>cases h
          |some w=>simp at h
       ·cases h
    ·cases h
   ·rename_i x l e1
    (try simp only [e1])
    exact softAt_soft (f:=fun _=>minL false l x) h fun H2 s r hr=>hr
   ·rename_i x l e1
    (try simp only [e1])
    exact softAt_soft (f:=fun _=>minL true l x) h fun H2 s r hr=>hr
   ·cases h
  ·cases h
 all_goals cases h
end
end
section
section
variable {H:Heap}
theorem setArr_fresh {id off:Nat} {t:Ty} {ys:List t.D} {H':Heap} (h:setArr H id off t ys=some H') {j:Nat} (hj:H j=none):H' j=none:=by
 unfold setArr at h
 have key:∀ b:Blk,H id≠none->(H.set id b) j=none:=fun b hne=>by
  rw [zH (fun e=>by subst e;exact hne hj)];exact hj
 split at h
 ·rename_i u xs fr hH
  split at h
  ·cases hx:castL (u:=u) ys with
   |none=>rw [hx] at h;cases h
   |some zs=>rw [hx] at h;cases h;exact key _ (by rw [hH];intro e;cases e)
  ·cases h
 ·rename_i cs hH
  split at h
  ·rename_i n u _ _
   cases hx:castL (u:=u) ys with
   |none=>rw [hx] at h;cases h
   |some zs=>
    rw [hx] at h
    simp only [zb] at h
    cases hl:setLeaf cs off (.dat (.ar n u) zs) with
    |none=>rw [hl] at h;cases h
    |some cs'=>rw [hl] at h;cases h;exact key _ (by rw [hH];intro e;cases e)
  ·cases h
 ·cases h
theorem exStore_fresh {P:Program} {T:TypeId} {a v:AV} {H':Heap} (h:exStore P T H a v=some H') {j:Nat} (hj:H j=none):H' j=none:=by
 unfold exStore at h
 split at h
 ·rename_i id p
  split at h
  ·split at h
   ·rename_i cs hH
    split at h
    ·obtain ⟨cs',_,h⟩:=zB.1 h
     split at h
     ·cases h;rw [zH (fun e=>by subst e;rw [hj] at hH;cases hH)];exact hj
     ·cases h
    ·cases h
   ·cases h
  ·split at h
   ·obtain ⟨u,_,h⟩:=zB.1 h
    obtain ⟨y,_,h⟩:=zB.1 h
    obtain ⟨z,_,h⟩:=zB.1 h
    exact setArr_fresh h hj
   ·cases h
 ·cases h
theorem freezeL_none {l:List AV} {j:Nat} (hj:H j=none):freezeL l H j=none:=by
 rw [freezeL_eq]
 split
 ·rw [hj];rfl
 ·exact hj
theorem exCall0_fresh {cx:Cx} {f:FuncId} {args:List AV} {id0:Nat} {v:AV} {H':Heap} {hd:Bool} (h:exCall0 cx f args H id0=some (v,H',hd)) {j:Nat} (hj:H j=none) (hr:¬ (id0<=j/\j<id0+W)):H' j=none:=by
 unfold exCall0 at h
 obtain ⟨as,_,h⟩:=zB.1 h
 simp only at h
 generalize hmv:reach H 8 (addNew [] (idsL as))=moved at h
 split at h
 ·rename_i hchk
  obtain ⟨q,_,h⟩:=zB.1 h
  obtain ⟨r,h1,n1⟩:=q
  simp only at h
  split at h
  ·rename_i hn
   simp only [Bool.and_eq_true,decide_eq_true_eq] at hchk hn
   simp only [zS,zP] at h
   obtain ⟨_,h,_⟩:=h
   have hm:mergeH H h1 moved id0 n1 j=none:=by
    unfold mergeH
    cases hi:idxOf j moved 0 with
    |some k=>
     exfalso
     have:=(idxOf_some hi).2
     have hmem:=List.mem_of_getElem? this
     have:=List.all_eq_true.1 hchk.1.1.1.1.1 j hmem
     rw [hj] at this;cases this
    |none=>
     simp only
     rw [if_neg]
     ·exact hj
     ·intro hc
      refine hr ⟨hc.1,?_⟩
      have:=hn.1
      unfold W
      omega
   rw [←h]
   split
   ·exact freezeL_none hm
   ·exact hm
  ·cases h
 ·cases h
theorem closeD_told {id:Nat} {q} (h:closeD H id=some q):H id≠none:=by
 intro e;unfold closeD at h;rw [e] at h;cases h
theorem closeD_fresh {id:Nat} {e:Ty} {xs:List e.D} {H1:Heap} (h:closeD H id=some ⟨e,xs,H1⟩) {j:Nat} (hj:H j=none):H1 j=none:=by
 unfold closeD at h
 split at h
 ·simp only [zS,Sigma.mk.injEq] at h
  obtain ⟨rfl,h⟩:=h
  cases h;exact hj
 ·rename_i e' xs' i o id' hH
  split at h
  ·rename_i t ys hH'
   obtain ⟨x,hx,h⟩:=zM.1 h
   simp only [Sigma.mk.injEq] at h
   obtain ⟨rfl,h⟩:=h
   cases h
   rw [zH (fun e=>by rw [e,hH] at hj;cases hj),zH (fun e=>by rw [e,hH'] at hj;cases hj)];exact hj
  ·cases h
 ·cases h
theorem closeIds_fresh:∀ (l:List Nat) {H:Heap} {j:Nat},H j=none->closeIds l H j=none
 | [],H,j,hj=>hj
 |id::l,H,j,hj=>by
  simp only [closeIds]
  split
  ·refine closeIds_fresh l ?_
   unfold closeH
   cases hc:closeD H id with
   |none=>exact hj
   |some q=>obtain ⟨e,xs,H1⟩:=q;exact closeD_fresh hc hj
  ·exact closeIds_fresh l hj
theorem exCall_fresh {cx:Cx} {f:FuncId} {args:List AV} {id0:Nat} {v:AV} {H':Heap} {hd:Bool} (h:exCall cx f args H id0=some (v,H',hd)) {j:Nat} (hj:H j=none) (hr:¬ (id0<=j/\j<id0+W)):H' j=none:=by
 unfold exCall at h
 split at h
 ·rename_i r hrr
  cases h
  exact exCall0_fresh hrr hj hr
 ·simp only at h
  split at h
  ·obtain ⟨⟨v',h',fl⟩,h1,h2⟩:=zM.1 h
   simp only [zP] at h2
   obtain ⟨_,rfl,_⟩:=h2
   exact exCall0_fresh h1 (closeIds_fresh _ hj) hr
  ·cases h
theorem exLoadD_fresh {P:Program} {T:TypeId} {id0 id:Nat} {i:Int} {o:Nat} {v:AV} {H':Heap} {hd:Bool} (h:exLoadD P T H id0 id i o=some (v,H',hd)) {j:Nat} (hj:H j=none) (h0:j≠id0):H' j=none:=by
 unfold exLoadD at h
 obtain ⟨u,hT,h⟩:=zB.1 h
 split at h
 ·obtain ⟨⟨e,xs,H1⟩,h1,h⟩:=zB.1 h
  obtain ⟨y,_,h⟩:=zM.1 h
  simp only [zP] at h
  rw [←h.2.1,zH h0,zH (fun e=>closeD_told h1 (by rw [←e];exact hj))]
  exact closeD_fresh h1 hj
 ·split at h
  ·obtain ⟨⟨e,xs,H1⟩,h1,h⟩:=zB.1 h
   obtain ⟨y,_,h⟩:=zM.1 h
   simp only [zP] at h
   rw [←h.2.1,zH (fun e=>closeD_told h1 (by rw [←e];exact hj))]
   exact closeD_fresh h1 hj
  ·split at h
   ·obtain ⟨y,_,h⟩:=zM.1 h
    simp only [zP] at h
    rw [←h.2.1];exact hj
   ·cases h
theorem exStoreAny_fresh {P:Program} {T:TypeId} {a v:AV} {H':Heap} (h:exStoreAny P T H a v=some H') {j:Nat} (hj:H j=none):H' j=none:=by
 unfold exStoreAny at h
 split at h
 ·rename_i id i o hd
  unfold exStoreD at h
  obtain ⟨u,hT,h⟩:=zB.1 h
  have put:∀ {hole e xs t ys} {H0:Heap},H id≠none->H0 j=none->putD hole e xs id i o t ys H0=some H'->H' j=none:=by
   intro hole e xs t ys H0 hid h0 h
   have ne:j≠id:=fun e=>hid (e▸hj)
   unfold putD at h
   split at h
   ·obtain ⟨x,_,h⟩:=zM.1 h
    rw [←h,zH ne];exact h0
   ·split at h
    ·obtain ⟨x,_,h⟩:=zM.1 h
     rw [←h,zH ne];exact h0
    ·cases h
  split at h
  ·rename_i t e xs hole hq hH
   have hid:H id≠none:=by rw [hH];intro e;cases e
   split at h
   ·exact put hid hj h
   ·rename_i id1 _
    split at h
    ·rename_i t' ys hH1
     obtain ⟨zs,_,h⟩:=zB.1 h
     exact put hid (by rw [zH (fun e=>by rw [e,hH1] at hj;cases hj)];exact hj) h
    ·cases h
   ·cases h
  ·rename_i e xs hole hq hH
   split at h
   ·cases h
   ·obtain ⟨y,_,h⟩:=zB.1 h
    obtain ⟨x,_,h⟩:=zM.1 h
    rw [←h,zH (fun e=>by rw [e,hH] at hj;cases hj)];exact hj
  ·cases h
 ·exact exStore_fresh h hj
theorem packD_told:∀ (u:Ty) (l:List AV) {x rest m},packD H u l=some (x,rest,m)->∀ id∈m,H id≠none:=by
 intro u
 have leaf:∀ (u:Ty) (l:List AV) (x:u.D) (rest:List AV) (m:List Nat),(match l with | .dat t y::r=>(cast' y).map fun z=>(z,r,([]:List Nat))|_=>none)=some (x,rest,m)->m=[]:=by
  intro u l x rest m h
  split at h
  ·obtain ⟨z,_,h⟩:=zM.1 h
   simp only [zP] at h
   exact h.2.2.symm
  ·cases h
 induction u with
 |un=>intro l x rest m h id hm;simp only [packD,zS,zP] at h;rw [←h.2.2] at hm;cases hm
 |pr a b iha ihb=>
  intro l x rest m h id hm
  have comp:((packD H a l).bind fun p=>(packD H b p.2.1).bind fun q=>some ((p.1,q.1),q.2.1,p.2.2++q.2.2))=some (x,rest,m)->H id≠none:=by
   intro h
   obtain ⟨⟨y,l1,m1⟩,h1,h⟩:=zB.1 h
   obtain ⟨⟨z,l2,m2⟩,h2,h⟩:=zB.1 h
   simp only [zS,zP] at h
   obtain ⟨rfl,rfl,rfl⟩:=h
   rcases List.mem_append.1 hm with h|h
   ·exact iha _ h1 id h
   ·exact ihb _ h2 id h
  simp only [packD] at h
  split at h
  ·rename_i t y r
   split at h
   ·exact comp h
   ·split at h
    ·have:=leaf (.pr a b) (.dat t y::r) _ _ _ h
     rw [this] at hm;cases hm
    ·exact comp h
  ·exact comp h
 |sl e ih=>
  intro l x rest m h id hm
  simp only [packD] at h
  split at h
  ·simp only [zS,zP] at h
   rw [←h.2.2] at hm;cases hm
  ·split at h
   ·rename_i id' r t ys hH
    obtain ⟨zs,_,h⟩:=zM.1 h
    simp only [zP] at h
    rw [←h.2.2] at hm
    simp only [List.mem_singleton] at hm
    rw [hm,hH];intro e;cases e
   ·cases h
  ·cases h
 |int k=>intro l x rest m h id hm;rw [leaf (.int k) l _ _ _ h] at hm;cases hm
 |bool=>intro l x rest m h id hm;rw [leaf .bool l _ _ _ h] at hm;cases hm
 |str=>intro l x rest m h id hm;rw [leaf .str l _ _ _ h] at hm;cases hm
 |ar n e=>intro l x rest m h id hm;rw [leaf (.ar n e) l _ _ _ h] at hm;cases hm
theorem exOp_fresh {cx:Cx} {ρ:Operand->AV} {o:Op} {T:TypeId} {id0:Nat} {v:AV} {H':Heap} {hd:Bool} (h:exOp cx ρ o T H id0=some (v,H',hd)) {j:Nat} (hj:H j=none) (hr:¬ (id0<=j/\j<id0+W)):H' j=none:=by
 cases hd with
 |false=>rw [(exOp_soft h).1 j hr];exact hj
 |true=>
 have h0:j≠id0:=fun e=>hr ⟨by omega,by unfold W;omega⟩
 have sft:∀ {a:Option AV},soft H a=some (v,H',true)->False:=fun {a} e=>by
  unfold soft at e;cases a<;>simp at e
 cases o<;>simp only [exOp] at h
 case load t a=>
  unfold exLoadAny at h
  split at h
  ·exact exLoadD_fresh h hj h0
  ·exact (sft h).elim
 case buildSlice t n ps=>
  split at h
  ·obtain ⟨h1,rfl⟩:=soft_some h
   exact hj
  split at h
  ·unfold exBuildD at h
   obtain ⟨⟨e,u⟩,_,h⟩:=zB.1 h
   (try simp only at h)
   split at h
   ·cases h
   ·split at h
    ·rename_i x m hp
     split at h
     ·obtain ⟨z,_,h⟩:=zB.1 h
      simp only [zS,zP] at h
      rw [←h.2.1,zH h0,killL_eq,if_neg (fun hm=>packD_told _ _ hp j hm hj)]
      exact hj
     ·cases h
    ·cases h
  obtain ⟨q,_,h⟩:=zB.1 h
  obtain ⟨z,_,h⟩:=zB.1 h
  split at h
  ·cases h
  ·obtain ⟨xs,_,h⟩:=zM.1 h
   simp only [zP] at h
   rw [←h.2.1,zH h0]
   exact freezeL_none hj
 case store t b x=>
  obtain ⟨h',hs,h⟩:=zM.1 h
  simp only [zP] at h
  rw [←h.2.1];exact exStoreAny_fresh hs hj
 case call c=>
  split at h
  ·split at h
   ·exact exCall_fresh h hj hr
   ·cases h
  ·unfold exBuiltin at h
   split at h
   ·split at h
    ·exact (sft h).elim
    ·cases h
   ·rename_i x y _ _
    split at h
    ·rename_i A B _
     have old:exAppend cx.P A B H id0 x y=some (v,H',true)->H' j=none:=by
      intro h
      unfold exAppend at h
      obtain ⟨q,_,h⟩:=zB.1 h
      obtain ⟨z,_,h⟩:=zB.1 h
      split at h
      ·cases h
      ·obtain ⟨ys,_,h⟩:=zB.1 h
       split at h
       ·split at h
        ·simp at h
        ·cases h
       ·rename_i id
        split at h
        ·rename_i u xs hH
         obtain ⟨zs,_,h⟩:=zB.1 h
         split at h
         ·simp only [zS,zP] at h
          rw [←h.2.1,zH h0,zH (fun e=>by subst e;rw [hj] at hH;cases hH)]
          exact hj
         ·cases h
        ·cases h
       ·cases h
     split at h
     ·rename_i idb
      split at h
      ·unfold exAppendD at h
       split at h
       ·obtain ⟨⟨e,u⟩,_,h⟩:=zB.1 h
        obtain ⟨z,_,h⟩:=zB.1 h
        (try simp only at h)
        split at h
        ·cases h
        ·split at h
         ·split at h
          ·rename_i u' ys hH
           obtain ⟨q,_,h⟩:=zB.1 h
           split at h
           ·simp only [zS,zP] at h
            rw [←h.2.1,zH h0,zH (fun e=>by rw [e,hH] at hj;cases hj)];exact hj
           ·cases h
          ·cases h
         ·rename_i ida _ _
          split at h
          ·cases h
          ·obtain ⟨⟨a1,a2,a3⟩,hcl,h⟩:=zB.1 h
           (try simp only at h)
           split at h
           ·rename_i u' ys hH
            obtain ⟨q,_,h⟩:=zB.1 h
            obtain ⟨q2,_,h⟩:=zB.1 h
            split at h
            ·simp only [zS,zP] at h
             have h3:=closeD_fresh hcl hj
             rw [←h.2.1,zH h0,zH (fun e=>by rw [e,hH] at h3;cases h3),zH (fun e=>closeD_told hcl (by rw [←e];exact hj))];exact h3
            ·cases h
           ·cases h
         ·cases h
       ·cases h
      ·exact old h
     ·exact old h
    ·cases h
   ·rename_i x y _
    split at h
    ·rename_i A B
     unfold exCopy at h
     obtain ⟨q,_,h⟩:=zB.1 h
     obtain ⟨z,_,h⟩:=zB.1 h
     simp only at h
     split at h
     ·obtain ⟨zs,_,h⟩:=zB.1 h
      obtain ⟨ys,_,h⟩:=zB.1 h
      obtain ⟨w,hw,h⟩:=zM.1 h
      simp only [zP] at h
      rw [←h.2.1];exact setArr_fresh hw hj
     ·cases h
    ·cases h
   ·exact (sft h).elim
   ·exact (sft h).elim
   ·cases h
  ·cases h
 case convert s t x=>
  unfold exConvert at h
  split at h
  ·split at h<;>simp at h
  ·split at h<;>simp at h
  ·split at h
   ·obtain ⟨xs,_,h⟩:=zM.1 h;simp at h
   ·cases h
  ·split at h
   ·split at h<;>simp at h
   ·cases h
  ·split at h
   ·split at h
    ·split at h<;>simp at h
    ·cases h
   ·cases h
  ·cases h
 case alloc e=>
  obtain ⟨l,_,h⟩:=zB.1 h
  split at h<;>simp at h
 case box e x=>split at h<;>simp at h
 case makeSlice t l c=>
  split at h
  ·exact absurd h (by
    intro h
    unfold soft at h
    obtain ⟨_,_,h⟩:=zM.1 h
    simp at h)
  split at h
  ·exact absurd h (by
    intro h
    unfold exMakeD at h
    split at h
    ·obtain ⟨⟨e,u⟩,_,h⟩:=zB.1 h
     obtain ⟨z,_,h⟩:=zB.1 h
     (try simp only at h)
     split at h
     ·split at h<;>simp at h
     ·cases h
    ·cases h)
  split at h
  ·obtain ⟨q,_,h⟩:=zB.1 h
   obtain ⟨z,_,h⟩:=zB.1 h
   split at h
   ·split at h<;>simp at h
   ·cases h
  ·cases h
 case slice t x lo hi mx=>
  cases mx with
  |some m=>
   exfalso
   cases lo with
   |some l=>exact (sft h).elim
   |none=>
   simp only at h
   unfold exEmpty at h
   split at h
   ·split at h
    ·split at h<;>simp at h
    ·split at h
     ·split at h<;>simp at h
     ·cases h
    ·split at h
     ·split at h<;>simp at h
     ·cases h
    ·split at h
     ·split at h<;>simp at h
     ·cases h
    ·cases h
   ·cases h
  |none=>exact (sft h).elim
 case makeFunc fn first caps=>
  cases fn with
  |func f=>simp only at h;split at h<;>simp at h
  |_=>cases h
 case extract x i=>
  split at h
  ·exact (sft h).elim
  ·cases h
 case pick c a b=>split at h<;>simp at h
 case nilCheck x=>split at h<;>simp at h
 case makeMap t r=>
  exfalso
  unfold exMakeMap at h
  obtain ⟨q,_,h⟩:=zB.1 h
  simp only at h
  split at h<;>simp at h
 case mapUpdate t m x b=>
  obtain ⟨h',hs,h⟩:=zM.1 h
  simp only [zP] at h
  rw [←h.2.1]
  unfold exMapUpdate at hs
  obtain ⟨q1,_,p1⟩:=zB.1 hs
  obtain ⟨q2,hM,p2⟩:=zB.1 p1
  obtain ⟨q3,_,p3⟩:=zB.1 p2
  obtain ⟨q4,_,p4⟩:=zB.1 p3
  split at p4
  ·simp only [zS] at p4
   rw [←p4,zH (fun e=>by rw [e,(mapOfA_some hM).2] at hj;cases hj)]
   exact hj
  ·cases p4
 case insert t m x b=>
  obtain ⟨h',hs,h⟩:=zM.1 h
  simp only [zP] at h
  rw [←h.2.1]
  unfold exMapUpdate at hs
  obtain ⟨q1,_,p1⟩:=zB.1 hs
  obtain ⟨q2,hM,p2⟩:=zB.1 p1
  obtain ⟨q3,_,p3⟩:=zB.1 p2
  obtain ⟨q4,_,p4⟩:=zB.1 p3
  split at p4
  ·simp only [zS] at p4
   rw [←p4,zH (fun e=>by rw [e,(mapOfA_some hM).2] at hj;cases hj)]
   exact hj
  ·cases p4
 all_goals first
  |exact (sft h).elim
  |(simp at h;done)
  |cases h
theorem exOp_pure {cx:Cx} {ρ:Operand->AV} {o:Op} {T:TypeId} {id0:Nat} {v:AV} {H':Heap} {hd:Bool} (hp:pureOp cx.P o=true) (h:exOp cx ρ o T H id0=some (v,H',hd)) :
  H'=H/\hd=false/\∀ H2,exOp cx ρ o T H2 id0=some (v,H2,false):=by
 have sft:∀ {a:Option AV},soft H a=some (v,H',hd)->H'=H/\hd=false/\∀ H2,soft H2 a=some (v,H2,false):=fun {a} e=>by
  unfold soft at e ⊢
  cases a with
  |none=>cases e
  |some x=>cases e;exact ⟨rfl,rfl,fun _=>rfl⟩
 have cst:∀ {x:AV},some (x,H,false)=some (v,H',hd)->H'=H/\hd=false/\∀ H2:Heap,some (x,H2,false)=some (v,H2,false):=fun {x} e=>by cases e;exact ⟨rfl,rfl,fun _=>rfl⟩
 cases o<;>simp only [pureOp] at hp<;>simp only [exOp] at h ⊢
 case move x=>exact cst h
 case assign x=>exact cst h
 case pick c a b=>split at h<;>first|(simp_all;done)|exact cst h|cases h
 case nilCheck x=>split at h<;>first|(simp_all;done)|exact cst h|cases h
 case binOp op t x y u=>exact sft h
 case unOp op t x=>exact sft h
 case fieldAddr s x f=>exact sft h
 case field s x f=>exact sft h
 case index t x i=>exact sft h
 case extract x i=>
  split at h
  ·rename_i e;first|(simp only [e];exact sft h)|exact sft h
  ·cases h
 case build t ps=>
  split at hp
  ·rename_i fs hT
   have:∀ H2,exBuild cx.P H2 t (ps.toList.map fun (i,x)=>(i,ρ x))=exBuild cx.P H t (ps.toList.map fun (i,x)=>(i,ρ x)):=fun H2=>by
    unfold exBuild
    simp only [hT]
   obtain ⟨a,b,c⟩:=sft h
   exact ⟨a,b,fun H2=>by rw [this H2];exact c H2⟩
  ·cases hp
 case convert s d x=>
  unfold exConvert at h ⊢
  split at hp
  ·rename_i k1 k2 hs hd'
   simp only [hs,hd'] at h ⊢
   split at h
   ·exact cst h
   ·cases h
  ·cases hp
 case slice t x lo hi mx=>
  split at hp
  ·rename_i hT
   cases mx with
   |some m=>
    cases lo with
    |none=>simp only at h;unfold exEmpty at h;rw [hT] at h;cases h
    |some l=>simp only at h;unfold exSlice3 at h;rw [hT] at h;cases h
   |none=>
   have:∀ H2,exSlice cx.P t H2 (ρ x) (lo.map ρ) (hi.map ρ) false=exSlice cx.P t H (ρ x) (lo.map ρ) (hi.map ρ) false:=fun H2=>by
    unfold exSlice
    simp only [hT]
    generalize ρ x=q
    cases q with
    |dat u y=>cases u<;>rfl
    |_=>rfl
   obtain ⟨a,b,c⟩:=sft h
   exact ⟨a,b,fun H2=>by simp only;rw [this H2];exact c H2⟩
  ·cases hp
 all_goals cases hp
theorem mem_ops1 {ps:Array (Nat×Operand)} {p:Nat×Operand} (h:p∈ps.toList):p.2∈ps.map (·.2):=Array.mem_map.2 ⟨p,Array.mem_toList_iff.1 h,rfl⟩
theorem exOp_congr {cx:Cx} {ρ ρ':Operand->AV} {o:Op} {T:TypeId} {id0:Nat} (h:∀ x∈o.operands,ρ x=ρ' x):exOp cx ρ o T H id0=exOp cx ρ' o T H id0:=by
 have pairs:∀ ps:Array (Nat×Operand),(∀ x∈ps.map (·.2),ρ x=ρ' x)->(ps.toList.map fun (i,x)=>(i,ρ x))=(ps.toList.map fun (i,x)=>(i,ρ' x)):=fun ps hp=>
  List.map_congr_left fun p hm=>by
   obtain ⟨i,x⟩:=p
   simp only [hp x (mem_ops1 hm)]
 have leavesC:∀ ps:Array (Nat×Operand),(∀ x∈ps.map (·.2),ρ x=ρ' x)->(ps.toList.flatMap fun (_,x)=>(ρ x).leaves)=(ps.toList.flatMap fun (_,x)=>(ρ' x).leaves):=fun ps hp=>by
  have:∀ l:List (Nat×Operand),(∀ p∈l,ρ p.2=ρ' p.2)->(l.flatMap fun (_,x)=>(ρ x).leaves)=(l.flatMap fun (_,x)=>(ρ' x).leaves):=fun l=>by
   induction l with
   |nil=>intro _;rfl
   |cons p l ih=>
    intro hl
    simp only [List.flatMap_cons]
    rw [ih fun q hq=>hl q (by simp [hq]),hl p (by simp)]
  exact this _ fun p hm=>hp _ (mem_ops1 hm)
 have lst:∀ xs:Array Operand,(∀ x∈xs,ρ x=ρ' x)->xs.toList.map ρ=xs.toList.map ρ':=fun xs hx=>List.map_congr_left fun x hm=>hx x (Array.mem_toList_iff.1 hm)
 cases o<;>simp only [Op.operands] at h<;>simp only [exOp]
 case build t ps=>rw [pairs ps fun x hx=>h x (by simpa using hx)]
 case buildSlice t n ps=>
  rw [pairs ps fun x hx=>h x (by simpa using hx),leavesC ps fun x hx=>h x (by simpa using hx)]
  cases hlit:cx.deep (t+litT) with
  |true=>rfl
  |false=>
  cases hd:deep1 (cx.deep t) n ps.toList with
  |none=>rfl
  |some x=>
   obtain ⟨_,hps⟩:=deep1_some hd
   have hx:ρ x=ρ' x:=h x (by
    have:ps=#[(0,x)]:=Array.ext' hps
    rw [this];simp)
   simp only [hx]
 case makeFunc fn first caps=>
  cases fn<;>simp only []
  rw [lst caps fun x hx=>h x (by simp [hx])]
 case call c=>
  have hargs:=lst c.args fun x hx=>h x (by simp [Call.operands,hx])
  simp only [hargs]
  cases hc:c.callee with
  |value f=>have hf:ρ f=ρ' f:=h f (by simp [Call.operands,hc]);simp only [hf]
  |invoke r m=>rfl
  |builtin b=>rfl
 case slice t x lo hi mx=>cases lo<;>cases hi<;>cases mx<;>simp_all
 case makeMap t r=>cases r<;>simp_all
 all_goals (first|rfl|(simp_all;done))
end
end
section
structure Trace (cx:Cx) (pv:Nat->Bool) (ops:Array Oper) (base:Nat) (E:Nat->Nat->AV) (hs:Nat->Heap) (vs:Nat->AV) (fs:Nat->Bool) (gs:Nat->Bool) (g2:Nat->Bool):Prop where
 mark2:∀ k o,ops[k]?=some o->g2 k=(skB ops o (E k)||markOf cx.deep (fun _=>false) base (E k) o.op (fs k))
 mark:∀ k o,ops[k]?=some o->gs k=(skB ops o (E k)||markOf cx.deep pv base (E k) o.op (fs k))
 tch:∀ k o,ops[k]?=some o->fs k=true->tchOK cx.own ops base (E k) (hs k) o=true
 step:∀ k o,ops[k]?=some o->exOne cx ops base k o (E k) (hs k)=some (vs k,hs (k+1),fs k)/\E (k+1)=put (E k) o.dst (vs k)
theorem trace_list {cx:Cx} {pv:Nat->Bool} {ops:Array Oper} {base:Nat}:∀ (l:List Oper) (k:Nat) (env:Nat->AV) (h:Heap) (env':Nat->AV) (h':Heap) (fl:List Fl),exOpsF cx pv ops base l k env h=some (env',h',fl) ->
  fl.length=l.length/\∃ (E:Nat->Nat->AV) (hs:Nat->Heap) (vs:Nat->AV),E k=env/\hs k=h/\E (k+l.length)=env'/\hs (k+l.length)=h' /\
   ∀ i o,l[i]?=some o->exOne cx ops base (k+i) o (E (k+i)) (hs (k+i))=some (vs (k+i),hs (k+i+1),(fl.getD i (false,false,false)).1)/\E (k+i+1)=put (E (k+i)) o.dst (vs (k+i))/\(fl.getD i (false,false,false)).2.1=(skB ops o (E (k+i))||markOf cx.deep pv base (E (k+i)) o.op (fl.getD i (false,false,false)).1)/\(fl.getD i (false,false,false)).2.2=(skB ops o (E (k+i))||markOf cx.deep (fun _=>false) base (E (k+i)) o.op (fl.getD i (false,false,false)).1)/\((fl.getD i (false,false,false)).1=true->tchOK cx.own ops base (E (k+i)) (hs (k+i)) o=true)
 | [],k,env,h,env',h',fl,he=>by
  simp only [exOpsF,zS,zP] at he
  obtain ⟨rfl,rfl,rfl⟩:=he
  exact ⟨rfl,fun _=>env,fun _=>h,fun _=>.any,rfl,rfl,rfl,rfl,fun i o hi=>by simp at hi⟩
 |o::l,k,env,h,env',h',fl,he=>by
  simp only [exOpsF] at he
  cases h1:exOne cx ops base k o env h with
  |none=>rw [h1] at he;cases he
  |some q=>
   obtain ⟨v,h2,hd⟩:=q
   rw [h1] at he
   simp only at he
   cases htb:tchBad cx.own ops base env h o hd with
   |true=>rw [htb] at he;cases he
   |false=>
   rw [htb] at he
   simp only at he
   cases h3:exOpsF cx pv ops base l (k+1) (put env o.dst v) h2 with
   |none=>rw [h3] at he;cases he
   |some r=>
    obtain ⟨e4,h4,f4⟩:=r
    rw [h3] at he
    simp only [zS,zP] at he
    obtain ⟨rfl,rfl,rfl⟩:=he
    obtain ⟨hl,E,hs,vs,a1,a2,a3,a4,a5⟩:=trace_list l (k+1) _ _ _ _ _ h3
    refine ⟨by simp [hl],fun j=>if j=k then env else E j,fun j=>if j=k then h else hs j,fun j=>if j=k then v else vs j,by simp,by simp,?_,?_,fun i o' hi=>?_⟩
    ·have:k+(o::l).length≠k:=by simp
     simp only [this,if_false]
     rw [←a3];congr 1;simp;omega
    ·have:k+(o::l).length≠k:=by simp
     simp only [this,if_false]
     rw [←a4];congr 1;simp;omega
    ·cases i with
     |zero=>
      simp at hi
      subst hi
      simp only [Nat.add_zero,if_true,List.getD_cons_zero]
      have:k+1≠k:=by omega
      simp only [this,if_false]
      exact ⟨by rw [a2];exact h1,a1,trivial,trivial,fun e=>by subst e;unfold tchBad at htb;simpa using htb⟩
     |succ i=>
      simp at hi
      have:=a5 i o' hi
      have e1:k+(i+1)≠k:=by omega
      have e2:k+(i+1)+1≠k:=by omega
      simp only [e1,e2,if_false,List.getD_cons_succ]
      rw [show k+(i+1)=k+1+i by omega]
      exact this
theorem trace_of {cx:Cx} {pv:Nat->Bool} {ops:Array Oper} {base:Nat} {env env':Nat->AV} {h h':Heap} {fl:List Fl} (he:exOpsF cx pv ops base ops.toList 0 env h=some (env',h',fl)) :
  fl.length=ops.size/\∃ (E:Nat->Nat->AV) (hs:Nat->Heap) (vs:Nat->AV),E 0=env/\hs 0=h/\E ops.size=env'/\hs ops.size=h'/\Trace cx pv ops base E hs vs (fun k=>(fl.getD k (false,false,false)).1) (fun k=>(fl.getD k (false,false,false)).2.1) (fun k=>(fl.getD k (false,false,false)).2.2):=by
 obtain ⟨h1,E,hs,vs,a1,a2,a3,a4,a5⟩:=trace_list _ _ _ _ _ _ _ he
 refine ⟨by simpa using h1,E,hs,vs,a1,a2,by simpa using a3,by simpa using a4,⟨fun k o ho=>?_,fun k o ho=>?_,fun k o ho=>?_,fun k o ho=>?_⟩⟩
 ·have:=a5 k o (by simpa using ho)
  simp only [Nat.zero_add] at this
  exact this.2.2.2.1
 ·have:=a5 k o (by simpa using ho)
  simp only [Nat.zero_add] at this
  exact this.2.2.1
 ·have:=a5 k o (by simpa using ho)
  simp only [Nat.zero_add] at this
  exact this.2.2.2.2
 ·have:=a5 k o (by simpa using ho)
  simp only [Nat.zero_add] at this
  exact ⟨this.1,this.2.1⟩
theorem bindsTo_mem {o:Oper} {j:Nat} (h:bindsTo o j=true):∃ e∈o.after,Region.binds .any e=true/\e.on=j:=by
 unfold bindsTo at h
 obtain ⟨e,he,h⟩:=List.any_eq_true.1 h
 simp only [Bool.and_eq_true,beq_iff_eq] at h
 exact ⟨e,Array.mem_toList_iff.1 he,h.1,h.2⟩
theorem ahead_all {P:Program} {ops:Array Oper} {ok:Oper} {fk:Fl}:∀ (l:List Oper) (fs:List Fl) (b:Nat),aheadOK P ops ok fk l fs b=true ->
  ∀ (i:Nat) oj fj,l[i]?=some oj->fs[i]?=some fj->pairOK P ops oj ok (b+i) fj fk=true
 | [],fs,b,h,i,oj,fj,h1,h2=>by simp at h1
 |o::l,[],b,h,i,oj,fj,h1,h2=>by simp at h2
 |o::l,f::fs,b,h,i,oj,fj,h1,h2=>by
  simp only [aheadOK,Bool.and_eq_true] at h
  cases i with
  |zero=>simp at h1 h2;subst h1;subst h2;exact h.1
  |succ i=>
   simp at h1 h2
   have:=ahead_all l fs (b+1) h.2 i oj fj h1 h2
   rw [show b+(i+1)=b+1+i by omega];exact this
theorem drawGo_all {P:Program} {ops:Array Oper} {all:List Oper} {allF:List Fl}:∀ (l:List Oper) (fs:List Fl) (b:Nat),drawGo P ops all allF l fs b=true ->
  ∀ (i:Nat) o f,l[i]?=some o->fs[i]?=some f->(∀ e∈o.after,Region.binds .any e=true->e.on<b+i)/\aheadOK P ops o f (all.take (b+i)) (allF.take (b+i)) 0=true
 | [],fs,b,h,i,oj,fj,h1,h2=>by simp at h1
 |o::l,[],b,h,i,oj,fj,h1,h2=>by simp at h2
 |o::l,f::fs,b,h,i,oj,fj,h1,h2=>by
  simp only [drawGo,Bool.and_eq_true] at h
  cases i with
  |zero=>
   simp at h1 h2;subst h1;subst h2
   refine ⟨fun e he hb=>?_,by simpa using h.1.2⟩
   have:=List.all_eq_true.1 h.1.1 e (Array.mem_toList_iff.2 he)
   rw [hb] at this
   simpa using this
  |succ i=>
   simp at h1 h2
   have:=drawGo_all l fs (b+1) h.2 i oj fj h1 h2
   rw [show b+(i+1)=b+1+i by omega];exact this
structure Drawn (P:Program) (ops:Array Oper) (fs gs g2:Nat->Bool):Prop where
 back:∀ (k:Nat) (o:Oper),ops[k]?=some o->∀ e∈o.after,Region.binds .any e=true->e.on<k
 dst:∀ (j k:Nat) (oj ok:Oper) (d:Tmp),j<k->ops[j]?=some oj->ops[k]?=some ok->oj.dst=some d->ok.dst≠some d
 use:∀ (j k:Nat) (oj ok:Oper) (d:Tmp),j<k->ops[j]?=some oj->ops[k]?=some ok->oj.dst=some d->d∈ok.looksAt ops->bindsIn ops 9 ok j=true
 anti:∀ (j k:Nat) (oj ok:Oper) (d:Tmp),j<k->ops[j]?=some oj->ops[k]?=some ok->ok.dst=some d->d∈oj.looksAt ops->bindsIn ops 9 ok j=true
 hard:∀ (j k:Nat) (oj ok:Oper),j<k->ops[j]?=some oj->ops[k]?=some ok->((fs j=true/\pureOp P ok.op=false/\preOf ops ok=false)\/(fs k=true/\pureOp P oj.op=false/\preOf ops oj=false))->waived (fs j,gs j,g2 j) (fs k,gs k,g2 k)=false->bindsIn ops 9 ok j=true
theorem drawn_of {P:Program} {ops:Array Oper} {fl:List Fl} (hl:fl.length=ops.size) (h:drawGo P ops ops.toList fl ops.toList fl 0=true):Drawn P ops (fun k=>(fl.getD k (false,false,false)).1) (fun k=>(fl.getD k (false,false,false)).2.1) (fun k=>(fl.getD k (false,false,false)).2.2):=by
 have hf:∀ k o,ops[k]?=some o->fl[k]?=some (fl.getD k (false,false,false)):=fun k o ho=>by
  have hlt:k<ops.size:=(Array.getElem?_eq_some_iff.1 ho).1
  rw [List.getD_eq_getElem?_getD,List.getElem?_eq_getElem (by omega)];rfl
 have main:∀ k o,ops[k]?=some o->(∀ e∈o.after,Region.binds .any e=true->e.on<k)/\aheadOK P ops o (fl.getD k (false,false,false)) (ops.toList.take k) (fl.take k) 0=true:=fun k o ho=>by
  have:=drawGo_all _ _ _ h k o _ (by simpa using ho) (hf k o ho)
  simpa using this
 have pair:∀ j k oj ok,j<k->ops[j]?=some oj->ops[k]?=some ok->pairOK P ops oj ok j (fl.getD j (false,false,false)) (fl.getD k (false,false,false))=true:=fun j k oj ok hjk hj hk=>by
  have:=ahead_all _ _ _ (main k ok hk).2 j oj (fl.getD j (false,false,false)) (by rw [List.getElem?_take,if_pos hjk];simpa using hj) (by rw [List.getElem?_take,if_pos hjk];exact hf j oj hj)
  simpa using this
 refine ⟨fun k o ho=>(main k o ho).1,fun j k oj ok d hjk hj hk hd=>?_,fun j k oj ok d hjk hj hk hd hm=>?_,fun j k oj ok d hjk hj hk hd hm=>?_,fun j k oj ok hjk hj hk hh hw=>?_⟩
 ·have:=pair j k oj ok hjk hj hk
  simp only [pairOK,hd,Bool.and_eq_true] at this
  have:=this.1.1.1
  simpa using this
 ·have:=pair j k oj ok hjk hj hk
  simp only [pairOK,hd,Bool.and_eq_true,Bool.or_eq_true,Bool.not_eq_true'] at this
  rcases this.1.1.2 with h|h
  ·simp [hm] at h
  ·exact h
 ·have:=pair j k oj ok hjk hj hk
  simp only [pairOK,hd,Bool.and_eq_true,Bool.or_eq_true,Bool.not_eq_true'] at this
  rcases this.1.2 with h|h
  ·simp [hm] at h
  ·exact h
 ·have:=pair j k oj ok hjk hj hk
  simp only [pairOK,Bool.and_eq_true] at this
  have h3:=this.2
  have hw':waived (fl.getD j (false,false,false)) (fl.getD k (false,false,false))=false:=hw
  rw [hw'] at h3
  rcases hh with ⟨h1,h2,h4⟩|⟨h1,h2,h4⟩
  ·simp only [h1,h2,h4] at h3;simpa using h3
  ·simp only [h1,h2,h4] at h3;simpa using h3
section
variable {cx:Cx} {pv:Nat->Bool} {ops:Array Oper} {base:Nat} {E:Nat->Nat->AV} {hs:Nat->Heap} {vs:Nat->AV} {fs gs g2:Nat->Bool}
theorem skB_no {o:Oper} {env:Nat->AV} (h:o.guard=none\/∃ j want g,o.guard=some (j,want)/\dstOf ops j=some g/\env g=.dat .bool want):skB ops o env=false:=by
 unfold skB
 rcases h with h|⟨j,want,g,h1,h2,h3⟩
 ·rw [h]
 ·rw [h1];simp only [h2,h3];cases want<;>rfl
theorem exOne_cases {k:Nat} {o:Oper} {env:Nat->AV} {h h':Heap} {v:AV} {hd:Bool} (he:exOne cx ops base k o env h=some (v,h',hd)) :
  (exOp cx (evalO env) o.op o.type h (base+k*W)=some (v,h',hd)/\(o.guard=none\/∃ j want g,o.guard=some (j,want)/\dstOf ops j=some g/\env g=.dat .bool want)) \/
  ((v=.tup []/\h'=h/\hd=false)/\∃ j want g,o.guard=some (j,want)/\dstOf ops j=some g/\(env g=.dat .bool (!want)\/env g=.tup [])):=by
 unfold exOne at he
 cases hg:o.guard with
 |none=>rw [hg] at he;exact .inl ⟨he,.inl rfl⟩
 |some jw=>
  obtain ⟨j,want⟩:=jw
  rw [hg] at he
  simp only at he
  cases hdj:dstOf ops j with
  |none=>rw [hdj] at he;cases he
  |some g=>
   rw [hdj] at he
   simp only at he
   split at he
   ·rename_i b hb
    split at he
    ·exact .inl ⟨he,.inr ⟨j,true,g,rfl,hdj,hb⟩⟩
    ·exact .inl ⟨he,.inr ⟨j,false,g,rfl,hdj,hb⟩⟩
    ·cases he;exact .inr ⟨⟨rfl,rfl,rfl⟩,j,false,g,rfl,hdj,.inl hb⟩
    ·cases he;exact .inr ⟨⟨rfl,rfl,rfl⟩,j,true,g,rfl,hdj,.inl hb⟩
   ·rename_i hb
    cases he;exact .inr ⟨⟨rfl,rfl,rfl⟩,j,want,g,rfl,hdj,.inr hb⟩
   ·cases he
def NP (ops:Array Oper) (base j:Nat):Prop:=∀ k o,ops[k]?=some o->preOf ops o=true->j≠base+k*W
theorem Trace.heap_none (t:Trace cx pv ops base E hs vs fs gs g2) (h0:∀ j,base<=j->NP ops base j->hs 0 j=none) (k:Nat):k<=ops.size->∀ j,base+k*W<=j->NP ops base j->hs k j=none:=by
 induction k with
 |zero=>intro _ j hj hp;exact h0 j (by omega) hp
 |succ k ih=>
  intro hk j hj hp
  have ho:ops[k]?=some ops[k]:=Array.getElem?_eq_getElem (by omega)
  obtain ⟨h1,_⟩:=t.step k _ ho
  rw [Nat.add_mul,Nat.one_mul] at hj
  have ih:=ih (by omega) j (by omega) hp
  rcases exOne_cases h1 with ⟨h2,_⟩|⟨⟨_,h2,_⟩,_⟩
  ·exact exOp_fresh h2 ih (fun hc=>by omega)
  ·rw [h2];exact ih
theorem Trace.heap_keep (t:Trace cx pv ops base E hs vs fs gs g2) {a:Nat}:∀ (n:Nat),a+n<=ops.size->(∀ q,a<=q->q<a+n->fs q=false)->∀ j,j<base+a*W->hs (a+n) j=hs a j
 |0,_,_,j,hj=>rfl
 |n+1,hn,hf,j,hj=>by
  have ho:ops[a+n]?=some ops[a+n]:=Array.getElem?_eq_getElem (by omega)
  obtain ⟨h1,_⟩:=t.step (a+n) _ ho
  have ih:=Trace.heap_keep t n (by omega) (fun q h1 h2=>hf q h1 (by omega)) j hj
  have hle:a*W<=(a+n)*W:=Nat.mul_le_mul_right _ (by omega)
  rw [show a+(n+1)=a+n+1 by omega,←ih]
  rcases exOne_cases h1 with ⟨h2,_⟩|⟨⟨_,h2,_⟩,_⟩
  ·rw [hf (a+n) (by omega) (by omega)] at h2
   exact (exOp_soft h2).1 j (fun hc=>by omega)
  ·rw [h2]
theorem Trace.keep (t:Trace cx pv ops base E hs vs fs gs g2) {a b:Nat} (hab:a<=b) (hb:b<=ops.size) (hf:∀ q,a<=q->q<b->fs q=false):∀ j,j<base+a*W->hs b j=hs a j:=by
 have:=t.heap_keep (a:=a) (b - a) (by omega) (fun q h1 h2=>hf q h1 (by omega))
 rwa [show a+(b - a)=b by omega] at this
theorem Trace.env (t:Trace cx pv ops base E hs vs fs gs g2) (d:Drawn cx.P ops fs gs g2):∀ k,k<=ops.size->∀ s,(∃ j o,j<k/\ops[j]?=some o/\o.dst=some s/\E k s=vs j)\/((∀ j o,j<k->ops[j]?=some o->o.dst≠some s)/\E k s=E 0 s)
 |0,_,s=>.inr ⟨fun j o h=>by omega,rfl⟩
 |k+1,hk,s=>by
  have ho:ops[k]?=some ops[k]:=Array.getElem?_eq_getElem (by omega)
  obtain ⟨_,h1⟩:=t.step k _ ho
  rw [h1]
  by_cases hd:(ops[k]).dst=some s
  ·left
   refine ⟨k,_,by omega,ho,hd,?_⟩
   rw [hd];simp [put]
  ·have hp:put (E k) (ops[k]).dst (vs k) s=E k s:=by
    cases hx:(ops[k]).dst with
    |none=>rfl
    |some x=>
     simp only [put]
     rw [if_neg]
     intro e;subst e;exact hd hx
   rw [hp]
   rcases Trace.env t d k (by omega) s with ⟨j,o,h2,h3,h4,h5⟩|⟨h2,h3⟩
   ·exact .inl ⟨j,o,by omega,h3,h4,h5⟩
   ·refine .inr ⟨fun j o hj ho'=>?_,h3⟩
    by_cases e:j=k
    ·subst e
     rw [ho] at ho'
     cases ho';exact hd
    ·exact h2 j o (by omega) ho'
end
end
section
theorem yb {ops:Array Oper} {tmps:Array Value} {j g:Nat} {b:Bool} (hd:dstOf ops j=some g) (h:tmps.getD g undef=.bool b):yielded ops tmps j=some b:=by
 unfold yielded
 unfold dstOf at hd
 rw [hd]
 simp only [zb]
 have:tmps[g]?=some (.bool b):=by
  rw [Array.getD_eq_getD_getElem?] at h
  cases hg:tmps[g]? with
  |none=>rw [hg] at h;simp [undef] at h
  |some v=>rw [hg] at h;simp at h;rw [h]
 rw [this]
theorem yn {ops:Array Oper} {tmps:Array Value} {j g:Nat} (hd:dstOf ops j=some g) (h:tmps.getD g undef=.tuple #[]):yielded ops tmps j=none:=by
 unfold yielded
 unfold dstOf at hd
 rw [hd]
 simp only [zb]
 rw [Array.getD_eq_getD_getElem?] at h
 cases hg:tmps[g]? with
 |none=>rfl
 |some v=>rw [hg] at h;simp at h;rw [h]
theorem Good.congr {X F w β H H'} (g:Good X F w β H) (h:∀ id,β id≠none->H' id=H id):Good X F w β H':=by
 have e:∀ {id c},β id=some c->H' id=H id:=fun {id c} hc=>h id (by rw [hc];intro e;cases e)
 exact ⟨fun id c hc=>by rw [e hc];exact g.hr id c hc,fun id c b hc ho=>g.own' id c b hc (by rw [←e hc];exact ho),
  fun id id' c c' b hc hc' ho ho'=>g.uniq' id id' c c' b hc hc' (by rw [←e hc];exact ho) (by rw [←e hc'];exact ho'),g.fsz,g.fext,g.fmono,g.frame,g.gsz,g.size,g.tame⟩
def on (listed:Array Bool) (k:Nat):Prop:=listed.getD k false=true
theorem on_lt {listed:Array Bool} {k:Nat} (h:on listed k):k<listed.size:=by
 unfold on at h
 rcases Nat.lt_or_ge k listed.size with h' | h'
 ·exact h'
 ·simp [Array.getElem?_eq_none h'] at h
theorem on_set {listed:Array Bool} {i k:Nat} (hi:i<listed.size):on (listed.setIfInBounds i true) k↔k=i\/on listed k:=by
 unfold on
 by_cases e:k=i
 ·subst e;simp [hi]
 ·have:(listed.setIfInBounds i true).getD k false=listed.getD k false:=getD_set_ne false (Ne.symm e)
  rw [this];simp [e]
theorem off_of {listed:Array Bool} {k:Nat} (h:listed.getD k true=false):k<listed.size/\¬ on listed k:=by
 unfold on
 rcases Nat.lt_or_ge k listed.size with h' | h'
 ·refine ⟨h',?_⟩
  simp [h'] at h ⊢
  exact h
 ·simp [Array.getElem?_eq_none h'] at h
structure Inv (cx:Cx) (ops:Array Oper) (base:Nat) (E:Nat->Nat->AV) (hs:Nat->Heap) (vs:Nat->AV) (fs:Nat->Bool) (X:Cst) (N pin:Nat) (F0:Nat->Prop) (w0:World) (β0:Nat->Option Conc)
  (listed:Array Bool) (p:Nat) (F:Nat->Prop) (β:Nat->Option Conc) (a:Act) (w:World):Prop where
 lsize:listed.size=ops.size
 down:∀ (k:Nat) (o:Oper),ops[k]?=some o->on listed k->∀ e∈o.after,Region.binds .any e=true->on listed e.on
 ple:p<=ops.size
 phard:∀ q,q<p->fs q=true->on listed q
 pat:p<ops.size->fs p=true/\¬ on listed p
 good:Good X F w β (hs p)
 dom:∀ j,β j≠none->j<base\/∃ k,on listed k/\base+k*W<=j/\j<base+k*W+W
 done:∀ (k:Nat) (o:Oper) (s:Nat),ops[k]?=some o->on listed k->o.dst=some s->RelV F w β (vs k) (a.tmps.getD s undef)
 todo:∀ s,(∀ (k:Nat) (o:Oper),ops[k]?=some o->on listed k->o.dst≠some s)->RelV F w β (E 0 s) (a.tmps.getD s undef)
 defers:a.defers=X.D
 size:N<=a.tmps.size
 ext:∀ b,F0 b->F b/\cellsAt w b=cellsAt w0 b
 pins:∀ j,j<pin->β j=β0 j
section
variable {cx:Cx} {pv:Nat->Bool} {ops:Array Oper} {base:Nat} {E:Nat->Nat->AV} {hs:Nat->Heap} {vs:Nat->AV} {fs gs g2:Nat->Bool} {X:Cst} {N pin:Nat} {F0:Nat->Prop} {w0:World} {β0:Nat->Option Conc}
theorem put_get {a:Act} {d:Option Nat} {r:Value} {s:Nat}:((a.put d r).tmps.getD s undef=a.tmps.getD s undef)\/d=some s:=by
 cases d with
 |none=>exact .inl rfl
 |some d=>
  by_cases e:d=s
  ·exact .inr (by rw [e])
  ·left
   simp only [Act.put,Array.getD_eq_getD_getElem?,Array.getElem?_setIfInBounds_ne e]
theorem put_self {a:Act} {s:Nat} {r:Value} (h:s<a.tmps.size):(a.put (some s) r).tmps.getD s undef=r:=by
 simp [Act.put,h]
theorem Inv.next {listed:Array Bool} {p F β} {a:Act} {w:World} (d:Drawn cx.P ops fs gs g2) (I:Inv cx ops base E hs vs fs X N pin F0 w0 β0 listed p F β a w) (hN:∀ o∈ops.toList,∀ k,o.dst=some k->k<N) (hpin:pin<=base) {k:Nat} {o:Oper} (ho:ops[k]?=some o)
  (hoff:¬ on listed k) (hready:∀ e∈o.after,Region.binds .any e=true->on listed e.on) {p':Nat} (ple:p'<=ops.size)
  (phard:∀ q,q<p'->fs q=true->q=k\/on listed q) (pat:p'<ops.size->fs p'=true/\¬ (p'=k\/on listed p'))
  {F' β'} {w':World} {r:Value} (good:Good X F' w' β' (hs p')) (ex:Ext F w β F' w' β') (hdom:∀ j,β' j≠none->β j≠none\/(base+k*W<=j/\j<base+k*W+W)) (rv:RelV F' w' β' (vs k) r) :
  Inv cx ops base E hs vs fs X N pin F0 w0 β0 (listed.setIfInBounds k true) p' F' β' (a.put o.dst r) w':=by
 have hk:k<listed.size:=by rw [I.lsize];exact (Array.getElem?_eq_some_iff.1 ho).1
 have hm:o∈ops.toList:=Array.mem_toList_iff.2 (Array.mem_of_getElem? ho)
 refine ⟨by simp [I.lsize],fun k' o' ho' hon e he hb=>?_,ple,fun q hq hf=>(on_set hk).2 (phard q hq hf),fun hp=>⟨(pat hp).1,fun h=>(pat hp).2 ((on_set hk).1 h)⟩,good,fun j hj=>?_,fun k' o' s ho' hon hd=>?_,fun s hs'=>?_,by rw [put_defers'];exact I.defers,by rw [put_size];exact I.size,fun b hb=>?_,fun j hj=>?_⟩
 ·rcases (on_set hk).1 hon with rfl|hon
  ·rw [ho] at ho';cases ho'
   exact (on_set hk).2 (.inr (hready e he hb))
  ·exact (on_set hk).2 (.inr (I.down k' o' ho' hon e he hb))
 ·rcases hdom j hj with h|h
  ·rcases I.dom j h with h|⟨k',h1,h2⟩
   ·exact .inl h
   ·exact .inr ⟨k',(on_set hk).2 (.inr h1),h2⟩
  ·exact .inr ⟨k,(on_set hk).2 (.inl rfl),h⟩
 ·rcases (on_set hk).1 hon with rfl|hon
  ·rw [ho] at ho';cases ho'
   rw [hd,put_self (Nat.lt_of_lt_of_le (hN o hm s hd) I.size)]
   exact rv
  ·rcases put_get (a:=a) (d:=o.dst) (r:=r) (s:=s) with h|h
   ·rw [h];exact (I.done k' o' s ho' hon hd).mono ex
   ·exfalso
    rcases Nat.lt_trichotomy k k' with hlt|rfl|hlt
    ·exact d.dst k k' o o' s hlt ho ho' h hd
    ·exact hoff hon
    ·exact d.dst k' k o' o s hlt ho' ho hd h
 ·have h1:o.dst≠some s:=hs' k o ho ((on_set hk).2 (.inl rfl))
  rcases put_get (a:=a) (d:=o.dst) (r:=r) (s:=s) with h|h
  ·rw [h];exact (I.todo s fun k' o' ho' hon=>hs' k' o' ho' ((on_set hk).2 (.inr hon))).mono ex
  ·exact absurd h h1
 ·obtain ⟨a1,a2⟩:=I.ext b hb
  obtain ⟨b1,b2⟩:=ex.f b a1
  exact ⟨b1,b2.trans a2⟩
 ·rw [←I.pins j hj]
  cases hc:β j with
  |some c=>exact ex.b j c hc
  |none=>
   cases hc':β' j with
   |none=>rfl
   |some c=>
    rcases hdom j (by rw [hc'];intro e;cases e) with h|h
    ·exact absurd hc h
    ·omega
theorem binds_on {listed:Array Bool} (down:∀ (k:Nat) (o:Oper),ops[k]?=some o->on listed k->∀ e∈o.after,Region.binds .any e=true->on listed e.on):∀ {n:Nat} {o:Oper} {j:Nat},bindsIn ops n o j=true->(∀ e∈o.after,Region.binds .any e=true->on listed e.on)->on listed j
 |0,o,j,h,hr=>by
  obtain ⟨e,he,hb,rfl⟩:=bindsTo_mem h
  exact hr e he hb
 |n+1,o,j,h,hr=>by
  simp only [bindsIn,Bool.or_eq_true] at h
  rcases h with h|h
  ·obtain ⟨e,he,hb,rfl⟩:=bindsTo_mem h
   exact hr e he hb
  ·obtain ⟨e,he,h⟩:=List.any_eq_true.1 h
   simp only [Bool.and_eq_true] at h
   cases ho:ops[e.on]? with
   |none=>rw [ho] at h;cases h.2
   |some o'=>
    rw [ho] at h
    have he':=hr e (Array.mem_toList_iff.1 he) h.1
    exact binds_on down h.2 (down e.on o' ho he')
def NV (b:Option Blk):Prop:=∀ cs,b≠some (.vars cs)
def VK (H H':Heap):Prop:=∀ j cs,H' j=some (.vars cs)↔H j=some (.vars cs)
theorem VK.refl {H:Heap}:VK H H:=fun _ _=>Iff.rfl
theorem VK.trans {H H' H'':Heap} (h:VK H H') (h':VK H' H''):VK H H'':=fun j cs=>(h' j cs).trans (h j cs)
theorem VK.set {H:Heap} {id:Nat} {b:Blk} (h1:NV (H id)) (h2:NV (some b)):VK H (H.set id b):=fun j cs=>by
 by_cases e:j=id
 ·subst e
  simp only [Heap.set,if_true]
  exact ⟨fun h=>absurd h (h2 cs),fun h=>absurd h (h1 cs)⟩
 ·simp only [Heap.set,if_neg e]
theorem NV.vk {H H':Heap} (h:VK H H') {j:Nat} (hn:NV (H j)):NV (H' j):=fun cs e=>hn cs ((h j cs).1 e)
theorem VK.then {H H1:Heap} (h:VK H H1) {id:Nat} {b:Blk} (h1:NV (H id)) (h2:NV (some b)):VK H (H1.set id b):=h.trans (VK.set (h1.vk h) h2)
theorem NV.none:NV none:=fun _ e=>by cases e
theorem NV.row {t:Ty} {xs:List t.D} {fr:Bool}:NV (some (.row t xs fr)):=fun _ e=>by cases e
theorem NV.deep {t:Ty} {xs:List t.D} {ho}:NV (some (.deep t xs ho)):=fun _ e=>by cases e
theorem NV.dead:NV (some .dead):=fun _ e=>by cases e
theorem NV.of {a b:Option Blk} (e:a=b) (h:NV b):NV a:=e▸h
theorem vk_frz (H:Heap) (id:Nat):VK H (frz1 H id):=fun j cs=>by
 unfold frz1
 by_cases e:j=id
 ·subst e
  simp only [if_true]
  split
  ·rename_i h;rw [h];exact ⟨fun h=>(by cases h),fun h=>(by cases h)⟩
  ·rename_i h;rw [h];exact ⟨fun h=>(by cases h),fun h=>(by cases h)⟩
  ·exact Iff.rfl
 ·simp only [if_neg e]
theorem vk_freezeL:∀ (l:List AV) (H:Heap),VK H (freezeL l H)
 | [],_=>VK.refl
 |.full id::l,H=>(vk_frz H id).trans (vk_freezeL l _)
 |.sub id _ _ _::l,H=>(vk_frz H id).trans (vk_freezeL l _)
 |.dat _ _::l,H=>vk_freezeL l H
 |.nilS::l,H=>vk_freezeL l H
 |.nilP::l,H=>vk_freezeL l H
 |.nilF::l,H=>vk_freezeL l H
 |.ptr _ _::l,H=>vk_freezeL l H
 |.mref _::l,H=>vk_freezeL l H
 |.fptr _ _::l,H=>vk_freezeL l H
 |.nz _ _ _::l,H=>vk_freezeL l H
 |.mp _ _ _::l,H=>vk_freezeL l H
 |.fn _ _::l,H=>vk_freezeL l H
 |.agg _::l,H=>vk_freezeL l H
 |.tup _::l,H=>vk_freezeL l H
 |.any::l,H=>vk_freezeL l H
theorem packD_dat {H:Heap} {u:Ty} {l:List AV} {x:u.D} {r:List AV} {m:List Nat} (h:(match l with
  |.dat t x::rest=>(cast' x).map fun y=>(y,rest,[])
  |_=>none:Option (u.D×List AV×List Nat))=some (x,r,m)):∀ id∈m,NV (H id):=by
 split at h
 ·obtain ⟨y,_,hy⟩:=zM.1 h
  simp only [zP] at hy
  obtain ⟨_,rfl,rfl⟩:=hy
  exact fun id hid=>(by cases hid)
 ·cases h
theorem packD_rows {H:Heap}:∀ (u:Ty) (l:List AV) {x:u.D} {r:List AV} {m:List Nat},packD H u l=some (x,r,m)->∀ id∈m,NV (H id)
 |.pr a b,l,x,r,m,h=>by
  have comp:((packD H a l).bind fun (x,l1,m1)=>(packD H b l1).bind fun (y,l2,m2)=>some ((x,y),l2,m1++m2))=some (x,r,m)->∀ id∈m,NV (H id):=by
   intro h
   obtain ⟨⟨x1,l1,m1⟩,h1,h⟩:=zB.1 h
   obtain ⟨⟨x2,l2,m2⟩,h2,h⟩:=zB.1 h
   simp only [zS,zP] at h
   obtain ⟨_,rfl,rfl⟩:=h
   intro id hid
   rcases List.mem_append.1 hid with h|h
   ·exact packD_rows a l h1 id h
   ·exact packD_rows b l1 h2 id h
  unfold packD at h
  simp only at h
  split at h
  ·split at h
   ·exact comp h
   ·split at h
    ·obtain ⟨y,_,hy⟩:=zM.1 h
     simp only [zP] at hy
     obtain ⟨_,rfl,rfl⟩:=hy
     exact fun id hid=>(by cases hid)
    ·exact comp h
  ·exact comp h
 |.sl e,l,x,r,m,h=>by
  unfold packD at h
  split at h
  ·simp only [zS,zP] at h
   obtain ⟨_,rfl,rfl⟩:=h
   exact fun id hid=>(by cases hid)
  ·split at h
   ·rename_i hr
    obtain ⟨y,_,hy⟩:=zM.1 h
    simp only [zP] at hy
    obtain ⟨_,rfl,rfl⟩:=hy
    intro id hid
    simp only [List.mem_singleton] at hid
    subst hid
    exact NV.of hr NV.row
   ·cases h
  ·cases h
 |.un,l,x,r,m,h=>by
  simp only [packD,zS,zP] at h
  obtain ⟨_,rfl,rfl⟩:=h
  exact fun id hid=>(by cases hid)
 |.int k,l,x,r,m,h=>by unfold packD at h;exact packD_dat h
 |.bool,l,x,r,m,h=>by unfold packD at h;exact packD_dat h
 |.str,l,x,r,m,h=>by unfold packD at h;exact packD_dat h
 |.ar n e,l,x,r,m,h=>by unfold packD at h;exact packD_dat h
theorem vk_killL:∀ (m:List Nat) (H:Heap),(∀ id∈m,NV (H id))->VK H (killL m H)
 | [],_,_=>VK.refl
 |id::m,H,h=>by
  have h1:VK H (H.set id .dead):=VK.set (h id (by simp)) NV.dead
  exact h1.trans (vk_killL m _ fun id' hid=>(h id' (by simp [hid])).vk h1)
theorem vk_closeD {H h1:Heap} {id:Nat} {e:Ty} {xs:List e.D} (h:closeD H id=some ⟨e,xs,h1⟩):VK H h1/\NV (H id):=by
 unfold closeD at h
 split at h
 ·rename_i hd
  cases h
  exact ⟨VK.refl,NV.of hd NV.deep⟩
 ·rename_i hd
  split at h
  ·rename_i hr
   obtain ⟨y,_,hy⟩:=zM.1 h
   cases hy
   refine ⟨?_,NV.of hd NV.deep⟩
   exact VK.then (VK.then VK.refl (NV.of hr NV.row) NV.dead) (NV.of hd NV.deep) NV.deep
  ·cases h
 ·cases h
theorem vk_loadAny {P:Program} {T:TypeId} {H H':Heap} {id0:Nat} {a v:AV} {hd:Bool} (h:exLoadAny P T H id0 a=some (v,H',hd)) (hf:H id0=none):VK H H':=by
 unfold exLoadAny at h
 split at h
 ·unfold exLoadD at h
  obtain ⟨u,_,h⟩:=zB.1 h
  split at h
  ·obtain ⟨⟨e,xs,h1⟩,hc,h⟩:=zB.1 h
   obtain ⟨ys,_,h⟩:=zM.1 h
   simp only [zP] at h
   obtain ⟨_,rfl,_⟩:=h
   obtain ⟨q1,q2⟩:=vk_closeD hc
   exact VK.then (VK.then q1 q2 NV.deep) (NV.of hf NV.none) NV.row
  ·split at h
   ·obtain ⟨⟨e,xs,h1⟩,hc,h⟩:=zB.1 h
    obtain ⟨ys,_,h⟩:=zM.1 h
    simp only [zP] at h
    obtain ⟨_,rfl,_⟩:=h
    obtain ⟨q1,q2⟩:=vk_closeD hc
    exact VK.then q1 q2 NV.row
   ·split at h
    ·obtain ⟨ys,_,h⟩:=zM.1 h
     simp only [zP] at h
     obtain ⟨_,rfl,_⟩:=h
     exact VK.refl
    ·cases h
 ·unfold soft at h
  obtain ⟨w,hw,h⟩:=zM.1 h
  simp only [zP] at h
  obtain ⟨_,rfl,_⟩:=h
  exact VK.refl
theorem vk_append {P:Program} {T U:TypeId} {H H':Heap} {id0:Nat} {a b v:AV} {hd:Bool} (h:exAppend P T U H id0 a b=some (v,H',hd)) (hf:H id0=none):VK H H':=by
 unfold exAppend at h
 obtain ⟨⟨e,t⟩,_,h⟩:=zB.1 h
 obtain ⟨z,_,h⟩:=zB.1 h
 (try simp only at h)
 split at h
 ·cases h
 ·obtain ⟨ys,_,h⟩:=zB.1 h
  split at h
  ·split at h
   ·cases h;exact VK.set (NV.of hf NV.none) NV.row
   ·cases h
  ·split at h
   ·rename_i hr
    obtain ⟨zs,_,h⟩:=zB.1 h
    split at h
    ·cases h
     exact VK.then (VK.then VK.refl (NV.of hr NV.row) NV.dead) (NV.of hf NV.none) NV.row
    ·cases h
   ·cases h
  ·cases h
theorem vk_appendD {P:Program} {T U:TypeId} {H H':Heap} {id0 idb:Nat} {a v:AV} {hd:Bool} (h:exAppendD P T U H id0 a idb=some (v,H',hd)) (hf:H id0=none):VK H H':=by
 unfold exAppendD at h
 split at h
 ·obtain ⟨⟨e,t⟩,_,h⟩:=zB.1 h
  obtain ⟨z,_,h⟩:=zB.1 h
  simp only at h
  split at h
  ·cases h
  ·split at h
   ·split at h
    ·rename_i hr
     obtain ⟨ys,_,h⟩:=zB.1 h
     split at h
     ·cases h
      exact VK.then (VK.then VK.refl (NV.of hr NV.deep) NV.dead) (NV.of hf NV.none) NV.deep
     ·cases h
    ·cases h
   ·split at h
    ·cases h
    ·obtain ⟨⟨e',xs,h1⟩,hc,h⟩:=zB.1 h
     simp only at h
     obtain ⟨p1,p2⟩:=vk_closeD hc
     split at h
     ·rename_i hr
      obtain ⟨ys,_,h⟩:=zB.1 h
      obtain ⟨zs,_,h⟩:=zB.1 h
      split at h
      ·cases h
       have hb:NV (H idb):=fun cs e=>by have:=(p1 idb cs).2 e;rw [hr] at this;cases this
       exact VK.then (VK.then (VK.then p1 p2 NV.dead) hb NV.dead) (NV.of hf NV.none) NV.deep
      ·cases h
     ·cases h
   ·cases h
 ·cases h
theorem young_keep {ρ:Nat->AV} {o:Op} {T:TypeId} {H H':Heap} {id0:Nat} {v:AV} {hd:Bool} (hy:youngOp pv base ρ o=true) (h:exOp cx (evalO ρ) o T H id0=some (v,H',hd)) (hf:H id0=none):∀ j cs,pv j=false->(H' j=some (.vars cs)↔H j=some (.vars cs)):=by
 suffices hs:VK H H'\/∃ id b,pv id=true/\H'=H.set id b by
  rcases hs with hs|⟨id,b,h1,rfl⟩
  ·exact fun j cs _=>hs j cs
  ·intro j cs hj
   have hne:j≠id:=by rintro rfl;rw [h1] at hj;cases hj
   rw [zH hne]
 cases o with
 |store t a x=>
  right
  simp only [youngOp] at hy
  split at hy
  ·rename_i id p hp
   split at hy
   ·rename_i hpath
    simp only [exOp,exStoreAny,hp,deepAt,hpath] at h
    obtain ⟨h2,h3,h4⟩:=zM.1 h
    simp only [zP] at h4
    obtain ⟨_,rfl,_⟩:=h4
    unfold exStore at h3
    simp only [hpath] at h3
    split at h3
    ·split at h3
     ·obtain ⟨cs',_,h5⟩:=zB.1 h3
      split at h5
      ·cases h5;exact ⟨id,_,hy,rfl⟩
      ·cases h5
     ·cases h3
    ·cases h3
   ·cases hy
  ·cases hy
 |load t a=>left;simp only [exOp] at h;exact vk_loadAny h hf
 |call c=>
  left
  simp only [youngOp] at hy
  simp only [exOp] at h
  split at h
  ·rename_i hc;rw [hc] at hy;cases hy
  ·rename_i b hc
   rw [hc] at hy
   cases b<;>simp only at hy<;>try cases hy
   unfold exBuiltin at h
   split at h<;>try cases h
   all_goals rename_i e1 e2<;>try cases e1
   split at h
   ·split at h
    ·split at h
     ·exact vk_appendD h hf
     ·exact vk_append h hf
    ·exact vk_append h hf
   ·cases h
  ·cases h
 |buildSlice t n ps=>
  left
  simp only [exOp] at h
  split at h
  ·unfold soft at h
   obtain ⟨w,hw,h⟩:=zM.1 h
   simp only [zP] at h
   obtain ⟨_,rfl,_⟩:=h
   exact VK.refl
  split at h
  ·unfold exBuildD at h
   obtain ⟨⟨e,u⟩,_,h⟩:=zB.1 h
   simp only at h
   split at h
   ·cases h
   ·split at h
    ·rename_i y m hpk
     split at h
     ·obtain ⟨_,_,h⟩:=zB.1 h
      simp only [zS,zP] at h
      obtain ⟨_,rfl,_⟩:=h
      exact VK.then (vk_killL m H (packD_rows _ _ hpk)) (NV.of hf NV.none) NV.deep
     ·cases h
    ·cases h
  ·obtain ⟨⟨e,u⟩,_,h⟩:=zB.1 h
   obtain ⟨z,_,h⟩:=zB.1 h
   simp only at h
   split at h
   ·cases h
   ·obtain ⟨xs,_,h⟩:=zM.1 h
    simp only [zP] at h
    obtain ⟨_,rfl,_⟩:=h
    exact VK.then (vk_freezeL (ps.toList.flatMap fun p=>(evalO ρ p.2).leaves) H) (NV.of hf NV.none) NV.row
 |_=>cases hy
theorem exIndexAddr_dat {P:Program} {T:TypeId} {H H2:Heap} {u:Ty} {x:u.D} {i:AV}:exIndexAddr P T H2 (.dat u x) i=exIndexAddr P T H (.dat u x) i:=by
 unfold exIndexAddr
 cases i with
 |dat ti ni=>
  cases ti<;>try rfl
  cases P.underlying T with
  |none=>rfl
  |some d=>
   cases d<;>try rfl
   all_goals (cases u<;>rfl)
 |_=>rfl
theorem exIndexAddr_fptr {P:Program} {T:TypeId} {H H2:Heap} {u:Ty} {x:u.D} {i:AV}:exIndexAddr P T H2 (.fptr u x) i=exIndexAddr P T H (.fptr u x) i:=by
 unfold exIndexAddr
 cases i with
 |dat ti ni=>
  cases ti<;>try rfl
  cases P.underlying T with
  |none=>rfl
  |some d=>
   cases d<;>try rfl
   all_goals (cases u<;>rfl)
 |_=>rfl
theorem young_weak {ρ:Nat->AV} {o:Op} (h:youngOp (fun _=>false) base ρ o=true):youngOp pv base ρ o=true:=by
 cases o with
 |store t a x=>
  simp only [youngOp] at h
  split at h
  ·split at h<;>cases h
  ·cases h
 |load t a=>rfl
 |buildSlice t n ps=>rfl
 |call c=>exact h
 |_=>cases h
theorem calm_at {ρ:Nat->AV} {o:Op} {T:TypeId} {H H':Heap} {id0:Nat} {v:AV} (hc:calmOp cx.deep pv base ρ o=true) (h:exOp cx (evalO ρ) o T H id0=some (v,H',false)) :
  ∃ m:Option (Nat×List AV),(∀ id cs,m=some (id,cs)->(id<base/\pv id=false)/\H id=some (.vars cs))/\∀ H2:Heap,(∀ id cs,m=some (id,cs)->H2 id=some (.vars cs))->exOp cx (evalO ρ) o T H2 id0=some (v,H2,false):=by
 cases o with
 |buildSlice t n ps=>
  simp only [calmOp] at hc
  simp only [exOp,hc] at h ⊢
  unfold soft at h ⊢
  obtain ⟨w,hw,h⟩:=zM.1 h
  simp only [zP] at h
  obtain ⟨rfl,_,_⟩:=h
  exact ⟨none,fun id cs e=>(by cases e),fun H2 _=>by rw [hw];rfl⟩
 |load t a=>
  simp only [calmOp] at hc
  split at hc
  ·rename_i id p hp
   split at hc
   ·rename_i hpath
    simp only [exOp,exLoadAny,hp,deepAt,hpath] at h ⊢
    unfold soft at h ⊢
    obtain ⟨w,hw,h⟩:=zM.1 h
    simp only [zP] at h
    obtain ⟨rfl,_,_⟩:=h
    have hw':=hw
    unfold exLoad at hw'
    simp only [hpath] at hw'
    split at hw'
    ·rename_i cs hcs
     refine ⟨some (id,cs),fun id' cs' e=>by cases e;exact ⟨by simpa using hc,hcs⟩,fun H2 h2=>?_⟩
     have h2:=h2 id cs rfl
     have:exLoad cx.P t H2 (.ptr id p)=some w:=by
      unfold exLoad at hw ⊢
      simp only [hpath] at hw ⊢
      rw [h2];rw [hcs] at hw;exact hw
     rw [this];rfl
    ·cases hw'
   ·cases hc
  ·rename_i u x hp
   simp only [exOp,exLoadAny,hp,deepAt] at h ⊢
   unfold soft at h ⊢
   obtain ⟨w,hw,h⟩:=zM.1 h
   simp only [zP] at h
   obtain ⟨rfl,_,_⟩:=h
   refine ⟨none,fun id cs e=>(by cases e),fun H2 _=>?_⟩
   have:exLoad cx.P t H2 (.fptr u x)=some w:=hw
   rw [this];rfl
  ·cases hc
 |indexAddr t x i=>
  simp only [calmOp] at hc
  have main:(∀ H2:Heap,exIndexAddr cx.P t H2 (evalO ρ x) (evalO ρ i)=exIndexAddr cx.P t H (evalO ρ x) (evalO ρ i))->∃ m:Option (Nat×List AV),(∀ id cs,m=some (id,cs)->(id<base/\pv id=false)/\H id=some (.vars cs))/\∀ H2:Heap,(∀ id cs,m=some (id,cs)->H2 id=some (.vars cs))->exOp cx (evalO ρ) (.indexAddr t x i) T H2 id0=some (v,H2,false):=fun hm=>by
   simp only [exOp] at h ⊢
   unfold soft at h ⊢
   obtain ⟨w,hw,h⟩:=zM.1 h
   simp only [zP] at h
   obtain ⟨rfl,_,_⟩:=h
   exact ⟨none,fun id cs e=>(by cases e),fun H2 _=>by rw [hm H2,hw];rfl⟩
  split at hc
  ·rename_i hp
   exact main fun H2=>by rw [hp];exact exIndexAddr_dat
  ·rename_i hp
   exact main fun H2=>by rw [hp];exact exIndexAddr_fptr
  ·cases hc
 |_=>cases hc
theorem binds_lt (back:∀ (k:Nat) (o:Oper),ops[k]?=some o->∀ e∈o.after,Region.binds .any e=true->e.on<k):∀ {n k:Nat} {o:Oper} {j:Nat},ops[k]?=some o->bindsIn ops n o j=true->j<k
 |0,k,o,j,hk,h=>by
  obtain ⟨e,he,hb,rfl⟩:=bindsTo_mem h
  exact back k o hk e he hb
 |n+1,k,o,j,hk,h=>by
  simp only [bindsIn,Bool.or_eq_true] at h
  rcases h with h|h
  ·obtain ⟨e,he,hb,rfl⟩:=bindsTo_mem h
   exact back k o hk e he hb
  ·obtain ⟨e,he,h⟩:=List.any_eq_true.1 h
   simp only [Bool.and_eq_true] at h
   cases ho:ops[e.on]? with
   |none=>rw [ho] at h;cases h.2
   |some o'=>
    rw [ho] at h
    have h1:=binds_lt back ho h.2
    have h2:=back k o hk e (Array.mem_toList_iff.1 he) h.1
    omega
theorem preOf_alloc {ops:Array Oper} {o:Oper} (h:preOf ops o=true):∃ e,o.op=.alloc e:=by
 unfold preOf at h
 split at h
 ·rename_i e he;exact ⟨e,he⟩
 ·cases h
theorem preGo_np {P:Program} {ops:Array Oper} {base j:Nat}:∀ (l:List Oper) (k:Nat) (h:Heap),(∀ i o,l[i]?=some o->preOf ops o=true->j≠base+(k+i)*W)->preGo P ops base l k h j=h j
 | [],k,h,_=>rfl
 |o::l,k,h,hj=>by
  have ih:=fun h=>preGo_np (P:=P) l (k+1) h (fun i o' hi hp=>by have:=hj (i+1) o' (by simpa using hi) hp;rwa [show k+1+i=k+(i+1) by omega])
  have h0:=hj 0 o rfl
  cases hp:preOf ops o with
  |false=>simp only [preGo,hp];exact ih _
  |true=>
   obtain ⟨e,he⟩:=preOf_alloc hp
   simp only [preGo,hp,he]
   cases hz:zeroL P e with
   |none=>exact ih _
   |some zs=>
    simp only
    rw [ih,zH (by have:=h0 hp;simpa using this)]
theorem preGo_at {P:Program} {ops:Array Oper} {base:Nat}:∀ (l:List Oper) (k:Nat) (h:Heap) (i:Nat) (o:Oper) (e:TypeId) (zs:List AV),l[i]?=some o->preOf ops o=true->o.op=.alloc e->zeroL P e=some zs ->
  preGo P ops base l k h (base+(k+i)*W)=some (.vars zs)
 | [],k,h,i,o,e,zs,hi,_,_,_=>by simp at hi
 |o'::l,k,h,0,o,e,zs,hi,hp,ho,hz=>by
  simp at hi
  subst hi
  unfold preGo
  rw [hp]
  simp only [ho,hz]
  rw [preGo_np]
  ·simp [Heap.set]
  ·intro i o2 _ _
   unfold W;omega
 |o'::l,k,h,i+1,o,e,zs,hi,hp,ho,hz=>by
  have ih:=fun h=>preGo_at (P:=P) (base:=base) l (k+1) h i o e zs (by simpa using hi) hp ho hz
  rw [show k+1+i=k+(i+1) by omega] at ih
  cases hp':preOf ops o' with
  |false=>simp only [preGo,hp'];exact ih _
  |true=>
   obtain ⟨e',he'⟩:=preOf_alloc hp'
   simp only [preGo,hp',he']
   cases hz':zeroL P e' with
   |none=>exact ih _
   |some zs'=>exact ih _
theorem preOf_guard {ops:Array Oper} {o:Oper} (h:preOf ops o=true):o.guard=none:=by
 unfold preOf at h
 split at h
 ·split at h
  ·rename_i hg;exact hg
  ·cases h
 ·cases h
theorem tchGo_get {own:FuncId->List Bool} {ops:Array Oper} {base:Nat} {env:Nat->AV} {h:Heap} {o:Oper}:∀ (l:List Oper) (k:Nat),tchGo own ops base env h o l k=true->∀ i x,l[i]?=some x->preOf ops x=true->bindsIn ops 9 o (k+i)=true\/keepsId own env h (base+(k+i)*W) o.op=true
 | [],k,_,i,x,hi,_=>by simp at hi
 |y::l,k,ht,0,x,hi,hp=>by
  simp at hi
  subst hi
  simp only [tchGo,hp,Bool.not_true,Bool.false_or,Bool.and_eq_true,Bool.or_eq_true] at ht
  exact ht.1
 |y::l,k,ht,i+1,x,hi,hp=>by
  simp only [tchGo,Bool.and_eq_true] at ht
  have:=tchGo_get l (k+1) ht.2 i x (by simpa using hi) hp
  rwa [show k+1+i=k+(i+1) by omega] at this
theorem exCall0_keep {f:FuncId} {args:List AV} {H H':Heap} {id0 id:Nat} {v:AV} {hd:Bool} {cs:List AV} (h:exCall0 cx f args H id0=some (v,H',hd)) (hm:∀ as,exportAll H (cx.own f) args=some as->(reach H 8 (addNew [] (idsL as))).contains id=false)
  (hr:¬ (id0<=id/\id<id0+W)) (hc:H id=some (.vars cs)):H' id=some (.vars cs):=by
 unfold exCall0 at h
 obtain ⟨as,has,h⟩:=zB.1 h
 have hm:=hm as has
 simp only at h
 generalize hmv:reach H 8 (addNew [] (idsL as))=moved at h hm
 split at h
 ·rename_i hchk
  obtain ⟨q,_,h⟩:=zB.1 h
  obtain ⟨r,h1,n1⟩:=q
  simp only at h
  split at h
  ·rename_i hn
   simp only [Bool.and_eq_true,decide_eq_true_eq] at hn
   simp only [zS,zP] at h
   obtain ⟨_,h,_⟩:=h
   have hmg:mergeH H h1 moved id0 n1 id=some (.vars cs):=by
    unfold mergeH
    cases hi:idxOf id moved 0 with
    |some k=>
     exfalso
     have hmem:=List.mem_of_getElem? (idxOf_some hi).2
     have:moved.contains id=true:=by simpa using hmem
     rw [hm] at this;cases this
    |none=>
     simp only
     rw [if_neg]
     ·exact hc
     ·intro hcc
      refine hr ⟨hcc.1,?_⟩
      have:=hn.1
      unfold W
      omega
   rw [←h]
   split
   ·exact (vk_freezeL _ _ id cs).2 hmg
   ·exact hmg
  ·cases h
 ·cases h
theorem keeps_id {ρ:Nat->AV} {o:Op} {T:TypeId} {H H':Heap} {id0 id:Nat} {v:AV} {hd:Bool} {cs:List AV} (hk:keepsId cx.own ρ H id o=true) (h:exOp cx (evalO ρ) o T H id0=some (v,H',hd)) (hf:H id0=none)
  (hr:¬ (id0<=id/\id<id0+W)) (hc:H id=some (.vars cs)):H' id=some (.vars cs):=by
 have young:youngOp (fun _=>false) 0 ρ o=true->H' id=some (.vars cs):=fun hy=>(young_keep (cx:=cx) (pv:=fun _=>false) (base:=0) hy h hf id cs rfl).2 hc
 cases o with
 |store t a x=>
  simp only [keepsId] at hk
  split at hk
  ·rename_i id' p hp
   split at hk
   ·rename_i hpath
    simp only [exOp,exStoreAny,hp,deepAt,hpath] at h
    obtain ⟨h2,h3,h4⟩:=zM.1 h
    simp only [zP] at h4
    obtain ⟨_,rfl,_⟩:=h4
    have hne:id≠id':=by rintro rfl;simp at hk
    unfold exStore at h3
    simp only [hpath] at h3
    split at h3
    ·split at h3
     ·obtain ⟨cs',_,h5⟩:=zB.1 h3
      split at h5
      ·cases h5;rw [zH hne];exact hc
      ·cases h5
     ·cases h3
    ·cases h3
   ·cases hk
  ·cases hk
 |load t a=>exact young rfl
 |buildSlice t n ps=>exact young rfl
 |call c=>
  simp only [keepsId] at hk
  split at hk
  ·rename_i b hb
   exact young (by simp only [youngOp,hb];exact hk)
  ·rename_i f hcf
   simp only [exOp,hcf] at h
   split at hk
   ·rename_i g caps hfn
    rw [hfn] at h
    simp only at h
    split at hk
    ·rename_i as has
     simp only [Bool.and_eq_true,Bool.not_eq_true'] at hk
     unfold exCall at h
     split at h
     ·rename_i r hrr
      cases h
      exact exCall0_keep hrr (fun as' has'=>by rw [has] at has';cases has';exact hk.1) hr hc
     ·simp only [hk.2] at h
      cases h
    ·cases hk
   ·cases hk
  ·cases hk
 |_=>cases hk
theorem pre_keep (t:Trace cx pv ops base E hs vs fs gs g2) (h0:∀ j,base<=j->NP ops base j->hs 0 j=none) {k:Nat} {o:Oper} {e:TypeId} {zs:List AV} (ho:ops[k]?=some o) (hp:preOf ops o=true) (hoe:o.op=.alloc e) (hz:zeroL cx.P e=some zs)
  (hb:hs 0 (base+k*W)=some (.vars zs)):∀ q,q<=ops.size->(∀ q' o',q'<q->ops[q']?=some o'->fs q'=true->bindsIn ops 9 o' k=false)->hs q (base+k*W)=some (.vars zs)
 |0,_,_=>hb
 |q+1,hq,hbind=>by
  have ih:=pre_keep t h0 ho hp hoe hz hb q (by omega) (fun q' o' h1=>hbind q' o' (by omega))
  have hoq:ops[q]?=some ops[q]:=Array.getElem?_eq_getElem (by omega)
  obtain ⟨h1,_⟩:=t.step q _ hoq
  have hW:∀ q,q≠k->¬ (base+q*W<=base+k*W/\base+k*W<base+q*W+W):=fun q hne=>by
   unfold W;omega
  rcases exOne_cases h1 with ⟨h2,_⟩|⟨⟨_,h2,_⟩,_⟩
  ·by_cases hqk:q=k
   ·subst hqk
    rw [hoq] at ho
    cases ho
    rw [hoe] at h2
    simp only [exOp,hz,zb] at h2
    split at h2
    ·simp only [zS,zP] at h2
     rw [←h2.2.1];simp [Heap.set]
    ·cases h2
   ·cases hfq:fs q with
    |false=>
     rw [hfq] at h2
     rw [(exOp_soft h2).1 _ (hW q hqk)];exact ih
    |true=>
     have htc:=t.tch q _ hoq hfq
     have:=tchGo_get _ _ htc k o (by simpa using ho) hp
     rw [Nat.zero_add] at this
     rcases this with h|h
     ·rw [hbind q _ (by omega) hoq hfq] at h;cases h
     ·have hnp:preOf ops ops[q]=false:=by
       cases hpq:preOf ops ops[q] with
       |false=>rfl
       |true=>
        exfalso
        obtain ⟨e',he'⟩:=preOf_alloc hpq
        rw [he'] at h2
        simp only [exOp] at h2
        obtain ⟨l,_,h2⟩:=zB.1 h2
        split at h2
        ·simp only [zS,zP] at h2
         rw [hfq] at h2;cases h2.2.2
        ·cases h2
      have hnil:=t.heap_none h0 q (by omega) (base+q*W) (Nat.le_refl _) (fun k' o' hk' hp'=>by
       by_cases e:k'=q
       ·subst e;rw [hoq] at hk';cases hk';rw [hnp] at hp';cases hp'
       ·unfold W;omega)
      exact keeps_id h h2 hnil (hW q hqk) ih
  ·rw [h2];exact ih
theorem Trace.hard_pre (t:Trace cx pv ops base E hs vs fs gs g2) {q:Nat} {oq:Oper} (hoq:ops[q]?=some oq) (hfq:fs q=true):preOf ops oq=false:=by
 cases hpq:preOf ops oq with
 |false=>rfl
 |true=>
  exfalso
  obtain ⟨h1,_⟩:=t.step q _ hoq
  obtain ⟨e',he'⟩:=preOf_alloc hpq
  rcases exOne_cases h1 with ⟨h2,_⟩|⟨⟨_,_,h2⟩,_⟩
  ·rw [he'] at h2
   simp only [exOp] at h2
   obtain ⟨l,_,h2⟩:=zB.1 h2
   split at h2
   ·simp only [zS,zP] at h2
    rw [hfq] at h2;cases h2.2.2
   ·cases h2
  ·rw [hfq] at h2;cases h2
theorem NP_own {q:Nat} {oq:Oper} (hoq:ops[q]?=some oq) (h:preOf ops oq=false):NP ops base (base+q*W):=fun k' o' hk' hp'=>by
 by_cases e:k'=q
 ·subst e;rw [hoq] at hk';cases hk';rw [h] at hp';cases hp'
 ·unfold W;omega
theorem not_NP {id:Nat} (hn:¬ NP ops base id):∃ k' o',ops[k']?=some o'/\preOf ops o'=true/\id=base+k'*W:=
 Classical.byContradiction fun hno=>hn fun k' o' h1 h2 h3=>hno ⟨k',o',h1,h2,h3⟩
def Pre (cx:Cx) (ops:Array Oper) (base:Nat) (h:Heap):Prop:=∀ k o e zs,ops[k]?=some o->preOf ops o=true->o.op=.alloc e->zeroL cx.P e=some zs->h (base+k*W)=some (.vars zs)
theorem pre_same (t:Trace cx pv ops base E hs vs fs gs g2) (d:Drawn cx.P ops fs gs g2) (h0:∀ j,base<=j->NP ops base j->hs 0 j=none) (hpre:Pre cx ops base (hs 0)) {k':Nat} {o':Oper} (ho:ops[k']?=some o') (hp:preOf ops o'=true)
  {a b:Nat} (ha:a<=k') (hab:a<=b) (hbs:b<=ops.size) (hf:∀ q,a<=q->q<b->fs q=false):hs b (base+k'*W)=hs a (base+k'*W):=by
 obtain ⟨e,hoe⟩:=preOf_alloc hp
 obtain ⟨h1,_⟩:=t.step k' _ ho
 have hz:∃ zs,zeroL cx.P e=some zs:=by
  rcases exOne_cases h1 with ⟨h2,_⟩|⟨_,j,want,g,hg,_⟩
  ·rw [hoe] at h2
   simp only [exOp] at h2
   obtain ⟨zs,hz,_⟩:=zB.1 h2
   exact ⟨zs,hz⟩
  ·rw [preOf_guard hp] at hg;cases hg
 obtain ⟨zs,hz⟩:=hz
 have key:∀ q,q<=ops.size->(∀ q',q'<q->fs q'=true->q'<a)->hs q (base+k'*W)=some (.vars zs):=fun q hq hq'=>
  pre_keep t h0 ho hp hoe hz (hpre k' o' e zs ho hp hoe hz) q hq (fun q' oq h1 h2 h3=>by
   cases hbn:bindsIn ops 9 oq k' with
   |false=>rfl
   |true=>
    have:=binds_lt d.back h2 hbn
    have:=hq' q' h1 h3
    omega)
 rw [key b hbs (fun q' h1 h3=>by
  rcases Nat.lt_or_ge q' a with h|h
  ·exact h
  ·rw [hf q' h h1] at h3;cases h3),key a (by omega) (fun q' h1 _=>h1)]
theorem Inv.step (hrun:RunSound cx.P cx.run) (hent:RunEnters cx.P cx.run) {listed:Array Bool} {p F β} {a:Act} {w:World} (d:Drawn cx.P ops fs gs g2) (t:Trace cx pv ops base E hs vs fs gs g2) (h0:∀ j,base<=j->NP ops base j->hs 0 j=none) (hpre:Pre cx ops base (hs 0))
  (I:Inv cx ops base E hs vs fs X N pin F0 w0 β0 listed p F β a w) (hN:∀ o∈ops.toList,∀ k,o.dst=some k->k<N) (hpin:pin<=base) {k:Nat} {Q:Exit->Act->World->Prop} {K:Act->World->Prop}
  (hk:k∈Region.ready .any ops listed) (hK:∀ a w,(∃ p F β,Inv cx ops base E hs vs fs X N pin F0 w0 β0 (listed.setIfInBounds k true) p F β a w)->K a w):wpOp cx.P ops Q k K a w:=by
 obtain ⟨hl,o,ho,hrd⟩:=mem_ready.1 hk
 obtain ⟨hks,hoff⟩:=off_of hl
 have hready:∀ e∈o.after,Region.binds .any e=true->on listed e.on:=hrd
 rw [I.lsize] at hks
 obtain ⟨hone,_⟩:=t.step k o ho
 have htell:=t.env d k (by omega)
 have hex:∀ s,∃ v,RelV F w β v (a.tmps.getD s undef)/\(s∈o.looksAt ops->v=E k s):=fun s=>by
  by_cases hx:∃ (k':Nat) (o':Oper),ops[k']?=some o'/\on listed k'/\o'.dst=some s
  ·obtain ⟨k',o',h1,h2,h3⟩:=hx
   refine ⟨vs k',I.done k' o' s h1 h2 h3,fun hm=>?_⟩
   rcases Nat.lt_trichotomy k k' with hlt|rfl|hlt
   ·exact absurd (binds_on I.down (d.anti k k' o o' s hlt ho h1 h3 hm) (I.down k' o' h1 h2)) hoff
   ·exact absurd h2 hoff
   ·rcases htell s with ⟨j,oj,hj,hoj,hdj,he⟩|⟨hno,_⟩
    ·rcases Nat.lt_trichotomy j k' with h|rfl|h
     ·exact absurd h3 (d.dst j k' oj o' s h hoj h1 hdj)
     ·exact he.symm
     ·exact absurd hdj (d.dst k' j o' oj s h h1 hoj h3)
    ·exact absurd h3 (hno k' o' hlt h1)
  ·refine ⟨E 0 s,I.todo s fun k' o' h1 h2 h3=>hx ⟨k',o',h1,h2,h3⟩,fun hm=>?_⟩
   rcases htell s with ⟨j,oj,hj,hoj,hdj,_⟩|⟨_,he⟩
   ·exact absurd ⟨j,oj,hoj,binds_on I.down (d.use j k oj o s hj hoj ho hdj hm) hready,hdj⟩ hx
   ·exact he.symm
 let ρ:Nat->AV:=fun s=>Classical.choose (hex s)
 have hρ:∀ s,RelV F w β (ρ s) (a.tmps.getD s undef):=fun s=>(Classical.choose_spec (hex s)).1
 have hρE:∀ s,s∈o.looksAt ops->ρ s=E k s:=fun s=>(Classical.choose_spec (hex s)).2
 have hev:∀ x,RelV F w β (evalO ρ x) (a.eval x):=fun x=>EnvRel.eval (env:=ρ) hρ x
 have hops:∀ x∈o.op.operands,evalO (E k) x=evalO ρ x:=fun x hx=>by
  cases x with
  |tmp s=>
   refine (hρE s ?_).symm
   unfold Oper.looksAt
   exact List.mem_append_left _ (List.mem_filterMap.2 ⟨.tmp s,by simpa using hx,rfl⟩)
  |_=>rfl
 have hguard:∀ {j:Nat} {want:Bool} {g:Nat},o.guard=some (j,want)->dstOf ops j=some g->RelV F w β (E k g) (a.tmps.getD g undef):=fun {j want g} h1 h2=>by
  have:g∈o.looksAt ops:=by
   unfold Oper.looksAt
   refine List.mem_append_right _ ?_
   rw [h1]
   unfold dstOf at h2
   simp only [h2]
   simp
  rw [←hρE g this];exact hρ g
 unfold wpOp
 simp only [ho]
 rcases exOne_cases hone with ⟨hx,hg⟩|⟨⟨hv,hh,hf⟩,j,want,g,hg,hdj,hb⟩
 ·have hgd:=hg
  have hw:Region.wanted o (yielded ops a.tmps)=true:=by
   unfold Region.wanted
   rcases hg with hg|⟨j,want,g,hg,hdj,hb⟩
   ·rw [hg]
   ·have hv:=hguard hg hdj
    rw [hb] at hv
    have hy:=yb (tmps:=a.tmps) hdj hv.bool_inv
    simp [hg,hy]
  rw [if_pos hw]
  left
  rw [exOp_congr hops] at hx
  have fresh:∀ j,base+k*W<=j->j<base+k*W+W->β j=none:=fun j h1 h2=>by
   cases hc:β j with
   |none=>rfl
   |some c=>
    exfalso
    rcases I.dom j (by rw [hc];intro e;cases e) with h|⟨k',h3,h4,h5⟩
    ·omega
    ·rcases Nat.lt_trichotomy k k' with hlt|rfl|hlt
     ·have:(k+1)*W<=k'*W:=Nat.mul_le_mul_right _ hlt
      rw [Nat.add_mul,Nat.one_mul] at this
      omega
     ·exact hoff h3
     ·have:(k'+1)*W<=k*W:=Nat.mul_le_mul_right _ hlt
      rw [Nat.add_mul,Nat.one_mul] at this
      omega
  have stay:exOp cx (evalO ρ) o.op o.type (hs p) (base+k*W)=some (vs k,hs p,false)->fs k=false->o.wp cx.P a w K Q:=fun hx hf=>by
   refine sim_op (d:=o.dst) (p:=o.pos) (af:=o.after) (gd:=o.guard) hrun hent I.good fresh hev hx a K Q fun r w' hl=>?_
   obtain ⟨F',β',g',ex,rv,hdom⟩:=hl
   refine hK _ _ ⟨p,F',β',I.next d hN hpin ho hoff hready I.ple (fun q h1 h2=>.inr (I.phard q h1 h2)) (fun hp=>⟨(I.pat hp).1,fun h=>?_⟩) g' ex hdom rv⟩
   rcases h with rfl|h
   ·have:=(I.pat hp).1;rw [hf] at this;cases this
   ·exact (I.pat hp).2 h
  cases hp:pureOp cx.P o.op with
  |true=>
   obtain ⟨_,hf,hall⟩:=exOp_pure hp hx
   exact stay (hall (hs p)) hf
  |false=>
   cases hpr:preOf ops o with
   |true=>
    obtain ⟨e,hoe⟩:=preOf_alloc hpr
    have hx':=hx
    rw [hoe] at hx'
    simp only [exOp] at hx'
    obtain ⟨zs,hz,hx'⟩:=zB.1 hx'
    have hb:=pre_keep t h0 ho hpr hoe hz (hpre k o e zs ho hpr hoe hz) p I.ple (fun q' o' h1 h2 h3=>by
     cases hbn:bindsIn ops 9 o' k with
     |false=>rfl
     |true=>exact absurd (binds_on I.down hbn (I.down q' o' h2 (I.phard q' h1 h3))) hoff)
    split at hx'
    ·rename_i hfl
     simp only [zS,zP] at hx'
     refine stay ?_ hx'.2.2.symm
     rw [hoe]
     simp only [exOp,hz,zb,hfl,if_true]
     rw [set_same hb,hx'.1]
    ·cases hx'
   |false=>
   cases hf:fs k with
   |false=>
    have calmCase:∀ (pv' gx:Nat->Bool),(∀ k o,ops[k]?=some o->gx k=(skB ops o (E k)||markOf cx.deep pv' base (E k) o.op (fs k)))->gx k=true ->
      (∀ q,q<ops.size->fs q=true->gx q=false->waived (fs k,gs k,g2 k) (fs q,gs q,g2 q)=false/\waived (fs q,gs q,g2 q) (fs k,gs k,g2 k)=false)->o.wp cx.P a w K Q:=fun pv' gx hmk hg hw=>by
     have hcalm:calmOp cx.deep pv' base ρ o.op=true:=by
      have h1:=hmk k o ho
      rw [skB_no hgd,Bool.false_or,hg,hf] at h1
      have h2:calmOp cx.deep pv' base (E k) o.op=true:=h1.symm
      have e:calmOp cx.deep pv' base ρ o.op=calmOp cx.deep pv' base (E k) o.op:=by
       cases hop:o.op with
       |load t' a'=>
        simp only [calmOp]
        rw [hops a' (by rw [hop];simp [Op.operands])]
       |indexAddr t' a' i'=>
        simp only [calmOp]
        rw [hops a' (by rw [hop];simp [Op.operands])]
       |_=>rfl
      rw [e];exact h2
     have hstep:∀ q,q<ops.size->(fs q=true->gx q=true)->∀ j cs,j<base/\pv' j=false->(hs (q+1) j=some (.vars cs)↔hs q j=some (.vars cs)):=fun q hq hyq j cs hj=>by
      have hoq:ops[q]?=some ops[q]:=Array.getElem?_eq_getElem hq
      cases hfq:fs q with
      |false=>rw [t.keep (a:=q) (b:=q+1) (by omega) (by omega) (fun q' h1 h2=>by rw [show q'=q by omega];exact hfq) j (by omega)]
      |true=>
       have hj2:=hj.2
       obtain ⟨hq1,_⟩:=t.step q _ hoq
       have hy:=hmk q _ hoq
       rw [hyq hfq,hfq] at hy
       rcases exOne_cases hq1 with ⟨h1,hgq⟩|⟨⟨_,h1,_⟩,_⟩
       ·rw [skB_no hgq,Bool.false_or] at hy
        exact young_keep (cx:=cx) (base:=base) hy.symm h1 (t.heap_none h0 q (by omega) _ (Nat.le_refl _) (NP_own hoq (t.hard_pre hoq hfq))) j cs hj.2
       ·rw [h1]
     have hnp:∀ q,q<ops.size->fs q=true->pureOp cx.P (ops[q]!).op=false:=fun q hq hfq=>by
      have hoq:ops[q]?=some ops[q]:=Array.getElem?_eq_getElem hq
      rw [getElem!_pos ops q hq]
      cases hpq:pureOp cx.P (ops[q]).op with
      |false=>rfl
      |true=>
       exfalso
       obtain ⟨hq1,_⟩:=t.step q _ hoq
       rcases exOne_cases hq1 with ⟨h1,_⟩|⟨⟨_,_,h1⟩,_⟩
       ·have:=(exOp_pure hpq h1).2.1
        rw [hfq] at this;cases this
       ·rw [hfq] at h1;cases h1
     have hsame:∀ j cs,j<base/\pv' j=false->hs k j=some (.vars cs)->hs p j=some (.vars cs):=by
      rcases Nat.lt_or_ge k p with hkp|hpk
      ·
       have step:∀ n,k+n<=p->∀ j cs,j<base/\pv' j=false->(hs (k+n) j=some (.vars cs)↔hs k j=some (.vars cs)):=by
        intro n
        induction n with
        |zero=>intro _ j cs _;exact Iff.rfl
        |succ n ih=>
         intro hn j cs hj
         rw [show k+(n+1)=k+n+1 by omega,←ih (by omega) j cs hj]
         have hqn:k+n<ops.size:=by have:=I.ple;omega
         refine hstep (k+n) hqn (fun hfq=>?_) j cs hj
         cases hgq:gx (k+n) with
         |true=>rfl
         |false=>
          exfalso
          have hkq:k<k+n:=by
           rcases Nat.eq_zero_or_pos n with h|h
           ·subst h;rw [Nat.add_zero,hf] at hfq;cases hfq
           ·omega
          have hoq:ops[k+n]?=some ops[k+n]:=Array.getElem?_eq_getElem hqn
          exact hoff (binds_on I.down (d.hard k (k+n) o _ hkq ho hoq (.inr ⟨hfq,hp,hpr⟩) (hw _ hqn hfq hgq).1) (I.down (k+n) _ hoq (I.phard (k+n) (by omega) hfq)))
       have:=step (p - k) (by omega)
       rw [show k+(p - k)=p by omega] at this
       exact fun j cs hj=>(this j cs hj).2
      ·
       have step:∀ n,p+n<=k->∀ j cs,j<base/\pv' j=false->(hs (p+n) j=some (.vars cs)↔hs p j=some (.vars cs)):=by
        intro n
        induction n with
        |zero=>intro _ j cs _;exact Iff.rfl
        |succ n ih=>
         intro hn j cs hj
         rw [show p+(n+1)=p+n+1 by omega,←ih (by omega) j cs hj]
         have hqn:p+n<ops.size:=by omega
         refine hstep (p+n) hqn (fun hfq=>?_) j cs hj
         cases hgq:gx (p+n) with
         |true=>rfl
         |false=>
          exfalso
          have hpn:p<ops.size:=by omega
          obtain ⟨q1,q2⟩:=I.pat hpn
          have hoq:ops[p+n]?=some ops[p+n]:=Array.getElem?_eq_getElem hqn
          have hlisted:=binds_on I.down (d.hard (p+n) k _ o (by omega) hoq ho (.inl ⟨hfq,hp,hpr⟩) (hw _ hqn hfq hgq).2) hready
          rcases Nat.eq_zero_or_pos n with h|h
          ·subst h;exact q2 hlisted
          ·have hnp':=hnp (p+n) hqn hfq
           rw [getElem!_pos ops (p+n) hqn] at hnp'
           exact q2 (binds_on I.down (d.hard p (p+n) _ _ (by omega) (Array.getElem?_eq_getElem hpn) hoq (.inl ⟨q1,hnp',t.hard_pre hoq hfq⟩) (by simp [waived,q1,hfq])) (I.down (p+n) _ hoq hlisted))
       intro j cs hj
       have:=step (k - p) (by omega) j cs hj
       rw [show p+(k - p)=k by omega] at this
       exact this.1
     rw [hf] at hx
     obtain ⟨m,hm,hall⟩:=calm_at hcalm hx
     exact stay (hall (hs p) fun idc cs e=>hsame idc cs (hm idc cs e).1 (hm idc cs e).2) hf
    have hweak:∀ q,q<ops.size->fs q=true->g2 q=true->gs q=true:=fun q hq hfq h2=>by
     have hoq:ops[q]?=some ops[q]:=Array.getElem?_eq_getElem hq
     have m1:=t.mark q _ hoq
     have m2:=t.mark2 q _ hoq
     rw [h2,hfq] at m2
     rw [hfq] at m1
     rw [m1]
     cases hs:skB ops ops[q] (E q) with
     |true=>rfl
     |false=>
      rw [hs] at m2
      exact young_weak (base:=base) m2.symm
    cases hg:gs k with
    |true=>
     refine calmCase pv gs t.mark hg fun q hq hfq hgq=>?_
     have h2:g2 q=false:=by
      cases h2:g2 q with
      |false=>rfl
      |true=>have:=hweak q hq hfq h2;rw [hgq] at this;cases this
     exact ⟨by simp [waived,hf,hgq,h2],by simp [waived,hf,hgq,h2]⟩
    |false=>
    cases hg2:g2 k with
    |true=>exact calmCase (fun _=>false) g2 t.mark2 hg2 fun q hq hfq hgq=>⟨by simp [waived,hf,hg,hgq],by simp [waived,hf,hg,hgq]⟩
    |false=>
    have hkp:k<p:=by
     rcases Nat.lt_trichotomy k p with h|h|h
     ·exact h
     ·subst h
      have:=(I.pat hks).1
      rw [hf] at this;cases this
     ·have hpn:p<ops.size:=by omega
      obtain ⟨q1,q2⟩:=I.pat hpn
      exact absurd (binds_on I.down (d.hard p k _ o h (Array.getElem?_eq_getElem hpn) ho (.inl ⟨q1,hp,hpr⟩) (by simp [waived,hf,hg,hg2])) hready) q2
    have hnone:∀ q,k<=q->q<p->fs q=false:=fun q h1 h2=>by
     cases hq:fs q with
     |false=>rfl
     |true=>
      exfalso
      have hkq:k<q:=by
       rcases Nat.lt_or_ge k q with h|h
       ·exact h
       ·have:k=q:=by omega
        subst this;rw [hf] at hq;cases hq
      have hqn:q<ops.size:=by have:=I.ple;omega
      have hoq:ops[q]?=some ops[q]:=Array.getElem?_eq_getElem hqn
      exact hoff (binds_on I.down (d.hard k q o _ hkq ho hoq (.inr ⟨hq,hp,hpr⟩) (by simp [waived,hf,hg,hg2])) (I.down q _ hoq (I.phard q h2 hq)))
    rw [hf] at hx
    have hkeep:=t.keep (Nat.le_of_lt hkp) I.ple hnone
    have hkeep':=t.keep (a:=k+1) hkp I.ple (fun q h1 h2=>hnone q (by omega) h2)
    have hnil:=t.heap_none h0 k (by omega)
    refine stay ((exOp_soft hx).2 (hs p) (fun id b hb=>?_) (fun j h1 h2=>?_)) hf
    ·rcases Nat.lt_or_ge id (base+k*W) with h|h
     ·rw [hkeep id h];exact hb
     ·by_cases hn:NP ops base id
      ·rw [hnil id h hn] at hb;cases hb
      ·obtain ⟨k',o',h1,h2,rfl⟩:=not_NP hn
       rw [pre_same t d h0 hpre h1 h2 (a:=k) (b:=p) (by revert h;unfold W;omega) (Nat.le_of_lt hkp) I.ple hnone];exact hb
    ·exact hkeep' j (by rw [Nat.add_mul,Nat.one_mul];omega)
   |true=>
    have hkp:k=p:=by
     rcases Nat.lt_trichotomy k p with h|h|h
     ·exact absurd (I.phard k h hf) hoff
     ·exact h
     ·have hpn:p<ops.size:=by omega
      obtain ⟨q1,q2⟩:=I.pat hpn
      exact absurd (binds_on I.down (d.hard p k _ o h (Array.getElem?_eq_getElem hpn) ho (.inl ⟨q1,hp,hpr⟩) (by simp [waived,hf,q1])) hready) q2
    subst hkp
    obtain ⟨p',hp1,hp2,hp3,hp4⟩:∃ p',k+1<=p'/\p'<=ops.size/\(∀ q,k+1<=q->q<p'->fs q=false)/\(p'<ops.size->fs p'=true):=by
     have:∀ m,∀ b,b+m=ops.size->∃ p',b<=p'/\p'<=ops.size/\(∀ q,b<=q->q<p'->fs q=false)/\(p'<ops.size->fs p'=true):=by
      intro m
      induction m with
      |zero=>intro b hb;exact ⟨b,by omega,by omega,fun q h1 h2=>by omega,fun h=>by omega⟩
      |succ m ih=>
       intro b hb
       cases hfb:fs b with
       |true=>exact ⟨b,by omega,by omega,fun q h1 h2=>by omega,fun _=>hfb⟩
       |false=>
        obtain ⟨p',q1,q2,q3,q4⟩:=ih (b+1) (by omega)
        refine ⟨p',by omega,q2,fun q h1 h2=>?_,q4⟩
        by_cases e:q=b
        ·rw [e];exact hfb
        ·exact q3 q (by omega) h2
     exact this (ops.size - (k+1)) (k+1) (by omega)
    have hpure:∀ q,q<ops.size->fs q=true->∃ oq,ops[q]?=some oq/\pureOp cx.P oq.op=false:=fun q hq hfq=>by
     have hoq:ops[q]?=some ops[q]:=Array.getElem?_eq_getElem hq
     refine ⟨_,hoq,?_⟩
     cases hpq:pureOp cx.P (ops[q]).op with
     |false=>rfl
     |true=>
      exfalso
      obtain ⟨hq1,_⟩:=t.step q _ hoq
      rcases exOne_cases hq1 with ⟨h1,_⟩|⟨⟨_,_,h1⟩,_⟩
      ·have:=(exOp_pure hpq h1).2.1
       rw [hfq] at this;cases this
      ·rw [hfq] at h1;cases h1
    have hlater:∀ q,k<q->q<ops.size->fs q=true->¬ on listed q:=fun q h1 h2 h3 hon=>by
     obtain ⟨oq,hoq,hpq⟩:=hpure q h2 h3
     exact hoff (binds_on I.down (d.hard k q o oq h1 ho hoq (.inl ⟨hf,hpq,t.hard_pre hoq h3⟩) (by simp [waived,hf,h3])) (I.down q oq hoq hon))
    have hkeep:=t.keep (a:=k+1) hp1 hp2 hp3
    refine sim_op (d:=o.dst) (p:=o.pos) (af:=o.after) (gd:=o.guard) hrun hent I.good fresh hev hx a K Q fun r w' hl=>?_
    obtain ⟨F',β',g',ex,rv,hdom⟩:=hl
    have g2:Good X F' w' β' (hs p'):=g'.congr fun id hid=>by
     cases hc:β' id with
     |none=>exact absurd hc hid
     |some c=>
      obtain ⟨blk,hb,_⟩:=g'.hr id c hc
      have hnil:=t.heap_none h0 (k+1) (by omega)
      rcases Nat.lt_or_ge id (base+(k+1)*W) with h|h
      ·exact hkeep id h
      ·by_cases hn:NP ops base id
       ·rw [hnil id h hn] at hb;cases hb
       ·obtain ⟨k',o',h1,h2,rfl⟩:=not_NP hn
        exact pre_same t d h0 hpre h1 h2 (a:=k+1) (b:=p') (by revert h;unfold W;omega) hp1 hp2 hp3
    refine hK _ _ ⟨p',F',β',I.next d hN hpin ho hoff hready hp2 (fun q h1 h2=>?_) (fun h=>⟨hp4 h,fun hh=>?_⟩) g2 ex hdom rv⟩
    ·rcases Nat.lt_trichotomy q k with h|h|h
     ·exact .inr (I.phard q h h2)
     ·exact .inl h
     ·have:=hp3 q h h1
      rw [h2] at this;cases this
    ·rcases hh with e|hh
     ·omega
     ·exact hlater p' (by omega) h (hp4 h) hh
 ·have hw:Region.wanted o (yielded ops a.tmps)=false:=by
   unfold Region.wanted
   have hv:=hguard hg hdj
   rcases hb with hb|hb
   ·rw [hb] at hv
    have hy:=yb (tmps:=a.tmps) hdj hv.bool_inv
    rw [hg];simp only [hy]
    cases want<;>rfl
   ·rw [hb] at hv
    obtain ⟨us,e1,e2⟩:=hv.tup_inv
    cases e2
    have hy:=yn (tmps:=a.tmps) hdj e1
    rw [hg];simp only [hy]
    rfl
  rw [hw]
  simp only [Bool.false_eq_true,if_false]
  refine hK _ _ ⟨p,F,β,I.next d hN hpin ho hoff hready I.ple (fun q h1 h2=>.inr (I.phard q h1 h2)) (fun hp=>⟨(I.pat hp).1,fun h=>?_⟩) I.good .refl (fun j hj=>.inl hj) (by rw [hv];exact undef_rel)⟩
  rcases h with rfl|h
  ·have:=(I.pat hp).1;rw [hf] at this;cases this
  ·exact (I.pat hp).2 h
theorem filter_lt {p q:Nat->Bool}:∀ (l:List Nat),(∀ x,q x=true->p x=true)->(∃ x∈l,p x=true/\q x=false)->(l.filter q).length<(l.filter p).length
 | [],_,⟨x,hx,_⟩=>by cases hx
 |y::l,h,⟨x,hx,h1,h2⟩=>by
  have le:∀ l:List Nat,(l.filter q).length<=(l.filter p).length:=fun l=>by
   induction l with
   |nil=>simp
   |cons z l ih=>
    simp only [List.filter_cons]
    cases hq:q z with
    |true=>rw [h z hq];simp;exact ih
    |false=>cases p z<;>simp<;>omega
  simp only [List.filter_cons]
  rcases List.mem_cons.1 hx with rfl|hx
  ·rw [h1,h2]
   have:=le l
   simp;omega
  ·have:=filter_lt l h ⟨x,hx,h1,h2⟩
   cases hq:q y with
   |true=>rw [h y hq];simp;exact this
   |false=>cases p y<;>simp<;>omega
theorem any_sound (hrun:RunSound cx.P cx.run) (hent:RunEnters cx.P cx.run) (d:Drawn cx.P ops fs gs g2) (t:Trace cx pv ops base E hs vs fs gs g2) (h0:∀ j,base<=j->NP ops base j->hs 0 j=none) (hpre:Pre cx ops base (hs 0))
  (hN:∀ o∈ops.toList,∀ k,o.dst=some k->k<N) (hpin:pin<=base) {Q:Exit->Act->World->Prop} (hQ:∀ a w,(∃ F β,Good X F w β (hs ops.size)/\(∀ j,β j≠none->j<base+ops.size*W)/\EnvRel F w β (E ops.size) a/\a.defers=X.D/\N<=a.tmps.size/\(∀ b,F0 b->F b/\cellsAt w b=cellsAt w0 b)/\(∀ j,j<pin->β j=β0 j))->Q .normal a w) :
  ∀ (fuel:Nat) (listed:Array Bool) (a:Act) (w:World),(∃ p F β,Inv cx ops base E hs vs fs X N pin F0 w0 β0 listed p F β a w)->((List.range ops.size).filter fun k=>!listed.getD k false).length<=fuel->wpAny cx.P .any ops Q fuel listed a w:=by
 have fin:∀ (listed:Array Bool) (a:Act) (w:World),(∃ p F β,Inv cx ops base E hs vs fs X N pin F0 w0 β0 listed p F β a w)->Region.ready .any ops listed=[]->Q .normal a w:=by
  intro listed a w ⟨p,F,β,I⟩ hr
  have all:∀ k,k<ops.size->on listed k:=by
   intro k
   induction k using Nat.strongRecOn with
   |_ k ih=>
    intro hk
    by_cases h:on listed k
    ·exact h
    ·exfalso
     have:k∈Region.ready .any ops listed:=by
      refine mem_ready.2 ⟨?_,ops[k],Array.getElem?_eq_getElem hk,fun e he hb=>?_⟩
      ·have hks:k<listed.size:=by rw [I.lsize];exact hk
       unfold on at h
       simp [hks] at h ⊢
       exact h
      ·have hlt:=d.back k _ (Array.getElem?_eq_getElem hk) e he hb
       exact ih e.on hlt (by omega)
     rw [hr] at this;cases this
  have hp:p=ops.size:=by
   have:=I.ple
   rcases Nat.lt_or_ge p ops.size with h|h
   ·exact absurd (all p h) (I.pat h).2
   ·omega
  subst hp
  refine hQ a w ⟨F,β,I.good,fun j hj=>?_,fun s=>?_,I.defers,I.size,I.ext,I.pins⟩
  ·cases hc:β j with
   |none=>exact absurd hc hj
   |some c=>
    obtain ⟨blk,hb,_⟩:=I.good.hr j c hc
    have hnil:=t.heap_none h0 ops.size (Nat.le_refl _)
    rcases Nat.lt_or_ge j (base+ops.size*W) with h|h
    ·exact h
    ·rw [hnil j h (fun k' o' hk' _=>by
      have:=(Array.getElem?_eq_some_iff.1 hk').1
      revert h;unfold W;omega)] at hb;cases hb
  ·rcases t.env d ops.size (Nat.le_refl _) s with ⟨j,o,h1,h2,h3,h4⟩|⟨h1,h2⟩
   ·rw [h4];exact I.done j o s h2 (all j h1) h3
   ·rw [h2];exact I.todo s fun k o hk _=>h1 k o (Array.getElem?_eq_some_iff.1 hk).1 hk
 intro fuel
 induction fuel with
 |zero=>
  intro listed a w hI hle
  have hr:Region.ready .any ops listed=[]:=by
   cases hr:Region.ready .any ops listed with
   |nil=>rfl
   |cons k l=>
    exfalso
    have hk:k∈Region.ready .any ops listed:=by rw [hr];simp
    obtain ⟨hl,o,ho,_⟩:=mem_ready.1 hk
    have hoff:=(off_of hl).2
    have hks:k<ops.size:=(Array.getElem?_eq_some_iff.1 ho).1
    have:k∈(List.range ops.size).filter fun k=>!listed.getD k false:=List.mem_filter.2 ⟨List.mem_range.2 hks,by unfold on at hoff;simpa using hoff⟩
    have hnil:=List.eq_nil_of_length_eq_zero (Nat.le_zero.1 hle)
    rw [hnil] at this
    cases this
  exact ⟨hr,fin listed a w hI hr⟩
 |succ fuel ih=>
  intro listed a w hI hle
  refine ⟨fun hr=>fin listed a w hI hr,fun k hk=>?_⟩
  obtain ⟨hl,o,ho,_⟩:=mem_ready.1 hk
  obtain ⟨hks,hoff⟩:=off_of hl
  have hks':k<ops.size:=(Array.getElem?_eq_some_iff.1 ho).1
  obtain ⟨p,F,β,I⟩:=hI
  refine I.step hrun hent d t h0 hpre hN hpin hk fun a w hI'=>ih _ a w hI' ?_
  have:=filter_lt (p:=fun k=>!listed.getD k false) (q:=fun j=>!(listed.setIfInBounds k true).getD j false) (List.range ops.size) (fun x hx=>by
   simp only [Bool.not_eq_true'] at hx ⊢
   cases hg:listed.getD x false with
   |false=>rfl
   |true=>have:=getD_set_true (i:=k) hg;rw [hx] at this;cases this) ⟨k,List.mem_range.2 hks',by unfold on at hoff;simpa using hoff,by
    have:=(on_set (k:=k) hks).2 (.inl rfl)
    unfold on at this
    simp [this]⟩
  omega
theorem draw_region (hrun:RunSound cx.P cx.run) (hent:RunEnters cx.P cx.run) {id:Nat} {env env':Nat->AV} {h h':Heap} {fl:List Fl} {next:Nat} (he:exOpsF cx pv ops next ops.toList 0 env (preH cx.P ops next (trimH next h))=some (env',h',fl)) (hd:drawOK cx.P ops fl=true)
  (hN:∀ o∈ops.toList,∀ k,o.dst=some k->k<N) {Q:Exit->Act->World->Prop} {F:Nat->Prop} {β:Nat->Option Conc} {a:Act} {w:World} (r:StRel X N pin F0 w0 β0 F w β env h next a)
  (hQ:∀ a w,(∃ F β,StRel X N pin F0 w0 β0 F w β env' h' (next+ops.size*W) a)->Q .normal a w):(Code.region id ops true).wp cx.P Q a w:=by
 obtain ⟨hl,E,hs,vs,e1,e2,e3,e4,t⟩:=trace_of he
 simp only [drawOK,Bool.and_eq_true] at hd
 have d:=drawn_of hl hd.2
 have h0:∀ j,next<=j->NP ops next j->hs 0 j=none:=fun j hj hn=>by
  rw [e2];unfold preH;rw [preGo_np _ _ _ (fun i o hi hp=>by rw [Nat.zero_add];exact hn i o (by simpa using hi) hp)]
  unfold trimH;rw [if_neg (by omega)]
 have hpre:Pre cx ops next (hs 0):=fun k o e zs ho hp hoe hz=>by
  rw [e2];unfold preH
  have:=preGo_at (P:=cx.P) (base:=next) ops.toList 0 (trimH next h) k o e zs (by simpa using ho) hp hoe hz
  rwa [Nat.zero_add] at this
 refine wp_region_any hd.1 ?_
 refine any_sound (X:=X) (N:=N) (pin:=pin) (F0:=F0) (w0:=w0) (β0:=β0) hrun hent d t h0 hpre hN r.pinle (fun a w ⟨F,β,g,hdm,hen,hdf,hsz,hext,hpins⟩=>hQ a w ⟨F,β,by rw [e4] at g;exact g,hdm,by rw [e3] at hen;exact hen,hdf,hsz,hext,hpins,by have:=r.pinle;omega⟩) ops.size _ a _ ?_ ?_
 ·have hrep:∀ k,¬ on (Array.replicate ops.size false) k:=fun k hk=>by
   have hlt:=on_lt hk
   unfold on at hk
   simp at hlt
   simp [hlt] at hk
  obtain ⟨p,hp2,hp3,hp4⟩:∃ p',p'<=ops.size/\(∀ q,q<p'->(fl.getD q (false,false,false)).1=false)/\(p'<ops.size->(fl.getD p' (false,false,false)).1=true):=by
   have:∀ m,∀ b,b+m=ops.size->∃ p',b<=p'/\p'<=ops.size/\(∀ q,b<=q->q<p'->(fl.getD q (false,false,false)).1=false)/\(p'<ops.size->(fl.getD p' (false,false,false)).1=true):=by
    intro m
    induction m with
    |zero=>intro b hb;exact ⟨b,by omega,by omega,fun q h1 h2=>by omega,fun h=>by omega⟩
    |succ m ih=>
     intro b hb
     cases hfb:(fl.getD b (false,false,false)).1 with
     |true=>exact ⟨b,by omega,by omega,fun q h1 h2=>by omega,fun _=>hfb⟩
     |false=>
      obtain ⟨p',q1,q2,q3,q4⟩:=ih (b+1) (by omega)
      refine ⟨p',by omega,q2,fun q h1 h2=>?_,q4⟩
      by_cases e:q=b
      ·rw [e];exact hfb
      ·exact q3 q (by omega) h2
   obtain ⟨p',_,q2,q3,q4⟩:=this ops.size 0 (by omega)
   exact ⟨p',q2,fun q hq=>q3 q (by omega) hq,q4⟩
  have gs:Good X F { w with drawn:=w.drawn+1 } β (hs 0):=by
   rw [e2]
   refine (r.good.same (w':={ w with drawn:=w.drawn+1 }) rfl ⟨rfl,rfl⟩).congr fun id hid=>?_
   have hlt:=r.dom id hid
   unfold preH
   rw [preGo_np _ _ _ (fun i o hi hp=>by omega)]
   unfold trimH
   rw [if_pos hlt]
  have hkeep:=t.keep (a:=0) (b:=p) (by omega) hp2 (fun q _ h=>hp3 q h)
  have gp:Good X F { w with drawn:=w.drawn+1 } β (hs p):=gs.congr fun id hid=>hkeep id (by have:=r.dom id hid;omega)
  refine ⟨p,F,β,by simp,fun k o _ hk=>absurd hk (hrep k),hp2,fun q hq hf=>(by rw [hp3 q hq] at hf;cases hf),fun h=>⟨hp4 h,hrep p⟩,gp,fun j hj=>.inl (r.dom j hj),fun k o s _ hk=>absurd hk (hrep k),fun s _=>?_,r.defers,r.size,fun b hb=>r.ext b hb,r.pins⟩
  rw [e1]
  refine RelV.same ?_ (r.env s)
  rfl
 ·refine Nat.le_trans (List.length_filter_le _ _) (by simp)
end
end
section
theorem yielded_bool {ops:Array Oper} {tmps:Array Value} {j g:Nat} {b:Bool} (hd:dstOf ops j=some g) (h:tmps.getD g undef=.bool b):yielded ops tmps j=some b:=by
 unfold yielded
 unfold dstOf at hd
 rw [hd]
 simp only [zb]
 have:tmps[g]?=some (.bool b):=by
  rw [Array.getD_eq_getD_getElem?] at h
  cases hg:tmps[g]? with
  |none=>rw [hg] at h;simp [undef] at h
  |some v=>rw [hg] at h;simp at h;rw [h]
 rw [this]
theorem yielded_none {ops:Array Oper} {tmps:Array Value} {j g:Nat} (hd:dstOf ops j=some g) (h:tmps.getD g undef=.tuple #[]):yielded ops tmps j=none:=by
 unfold yielded
 unfold dstOf at hd
 rw [hd]
 simp only [zb]
 rw [Array.getD_eq_getD_getElem?] at h
 cases hg:tmps[g]? with
 |none=>rfl
 |some v=>rw [hg] at h;simp at h;rw [h]
section
variable {cx:Cx} {X:Cst} {N pin:Nat} {F0:Nat->Prop} {w0:World} {β0:Nat->Option Conc}
def Rel (X:Cst) (N pin:Nat) (F0:Nat->Prop) (w0:World) (β0:Nat->Option Conc) (env:Nat->AV) (h:Heap) (next:Nat) (a:Act) (w:World):Prop:=
 ∃ F β,StRel X N pin F0 w0 β0 F w β env h next a
theorem stRel_put {F w β env h next} {a:Act} (r:StRel X N pin F0 w0 β0 F w β env h next a) {d:Option Nat} {v:AV} {u:Value} (hd:∀ k,d=some k->k<N) (hv:RelV F w β v u) :
  StRel X N pin F0 w0 β0 F w β (put env d v) h next (a.put d u):=
 ⟨r.good,r.dom,r.env.put (fun k hk=>Nat.lt_of_lt_of_le (hd k hk) r.size) hv,by rw [put_defers'];exact r.defers,by rw [put_size];exact r.size,r.ext,r.pins,r.pinle⟩
theorem stRel_same {F w β env h next} {a:Act} (r:StRel X N pin F0 w0 β0 F w β env h next a) {g:Nat} {v:AV} (e:env g=v) :
  StRel X N pin F0 w0 β0 F w β (put env (some g) v) h next a:=
 { r with env:=r.env.same e }
theorem stRel_next {F w β env h next next'} {a:Act} (r:StRel X N pin F0 w0 β0 F w β env h next a) (hn:next<=next') :
  StRel X N pin F0 w0 β0 F w β env h next' a:=
 { r with dom:=fun j hj=>Nat.lt_of_lt_of_le (r.dom j hj) hn,pinle:=Nat.le_trans r.pinle hn }
theorem stRel_op {F w β env h next} {a:Act} (r:StRel X N pin F0 w0 β0 F w β env h next a) {h':Heap} {v:AV} {u:Value} {w':World} (l:LeftW X F w β h' next v u w') {d:Option Nat} (hd:∀ k,d=some k->k<N) :
  ∃ F' β',StRel X N pin F0 w0 β0 F' w' β' (put env d v) h' (next+W) (a.put d u):=by
 obtain ⟨F',β',g',ex,rv,hdom⟩:=l
 refine ⟨F',β',g',fun j hj=>?_,(r.env.mono ex).put (fun k hk=>Nat.lt_of_lt_of_le (hd k hk) r.size) rv,by rw [put_defers'];exact r.defers,by rw [put_size];exact r.size,fun b hb=>?_,fun j hj=>?_,?_⟩
 ·rcases hdom j hj with h|h
  ·have:=r.dom j h;omega
  ·exact h.2
 ·obtain ⟨a1,a2⟩:=r.ext b hb
  obtain ⟨b1,b2⟩:=ex.f b a1
  exact ⟨b1,b2.trans a2⟩
 ·rw [←r.pins j hj]
  cases hc:β j with
  |some c=>exact ex.b j c hc
  |none=>
   cases hc':β' j with
   |none=>rfl
   |some c=>
    rcases hdom j (by rw [hc'];intro e;cases e) with h|h
    ·exact absurd hc h
    ·have:=r.pinle;omega
 ·have:=r.pinle;omega
theorem exOps_sound (hrun:RunSound cx.P cx.run) (hent:RunEnters cx.P cx.run) {ops:Array Oper} (hN:∀ o∈ops.toList,∀ k,o.dst=some k->k<N) {base:Nat} {Q:Exit->Act->World->Prop} {env':Nat->AV} {h':Heap}
  (hQ:∀ a w,Rel X N pin F0 w0 β0 env' h' (base+ops.size*W) a w->Q .normal a w) :
  ∀ (l:List Oper) (k:Nat) (env:Nat->AV) (h:Heap),k<=ops.size->(∀ i,l[i]?=ops[k+i]?)->exOps cx ops base l k env h=some (env',h') ->
   ∀ a w,Rel X N pin F0 w0 β0 env h (base+k*W) a w->wpOps cx.P ops Q (List.range' k l.length) a w
 | [],k,env,h,hk,hl,he,a,w,r=>by
  simp only [exOps,zS,zP] at he
  obtain ⟨rfl,rfl⟩:=he
  simp only [List.length_nil,List.range'_zero,wpOps]
  obtain ⟨F,β,r⟩:=r
  refine hQ a w ⟨F,β,stRel_next r ?_⟩
  have:k*W<=ops.size*W:=Nat.mul_le_mul_right _ hk
  omega
 |o::l,k,env,h,hk,hl,he,a,w,r=>by
  have ho:ops[k]?=some o:=by have:=hl 0;simpa using this.symm
  have hl':∀ i,l[i]?=ops[k+1+i]?:=fun i=>by
   have:=hl (i+1)
   rw [show k+1+i=k+(i+1) by omega,←this];simp
  have hm:o∈ops.toList:=by
   have:=Array.mem_of_getElem? ho
   exact Array.mem_toList_iff.2 this
  have hd:∀ k,o.dst=some k->k<N:=hN o hm
  have hk':k+1<=ops.size:=by
   rcases Nat.lt_or_ge k ops.size with h|h
   ·omega
   ·simp [Array.getElem?_eq_none h] at ho
  have ih:=fun env h=>exOps_sound hrun hent hN hQ l (k+1) env h hk'
  obtain ⟨F,β,r⟩:=r
  have doIt:∀ env:Nat->AV,StRel X N pin F0 w0 β0 F w β env h (base+k*W) a ->
    ((exOp cx (evalO env) o.op o.type h (base+k*W)).bind fun q=>exOps cx ops base l (k+1) (put env o.dst q.1) q.2.1)=some (env',h') ->
    o.wp cx.P a w (wpOps cx.P ops Q (List.range' (k+1) l.length)) Q:=by
   intro env r he
   cases hx:exOp cx (evalO env) o.op o.type h (base+k*W) with
   |none=>rw [hx] at he;cases he
   |some q=>
    obtain ⟨v,h1,hd1⟩:=q
    rw [hx] at he
    simp only [zb] at he
    have fresh:∀ j,base+k*W<=j->j<base+k*W+W->β j=none:=fun j hj _=>by
     cases hc:β j with
     |none=>rfl
     |some c=>have:=r.dom j (by rw [hc];intro e;cases e);omega
    have fine:=sim_op (d:=o.dst) (p:=o.pos) (af:=o.after) (gd:=o.guard) hrun hent r.good fresh (fun x=>r.env.eval x) hx
    refine fine a _ Q fun u w' hl=>?_
    obtain ⟨F',β',r'⟩:=stRel_op r hl (d:=o.dst) hd
    exact ih _ _ hl' he _ _ ⟨F',β',by rw [Nat.add_mul,Nat.one_mul,←Nat.add_assoc];exact r'⟩
  have skip:∀ env:Nat->AV,StRel X N pin F0 w0 β0 F w β env h (base+k*W) a ->
    exOps cx ops base l (k+1) (put env o.dst (.tup [])) h=some (env',h')->wpOps cx.P ops Q (List.range' (k+1) l.length) (a.put o.dst undef) w:=by
   intro env r he
   refine ih _ _ hl' he _ _ ⟨F,β,stRel_next (stRel_put r hd undef_rel) ?_⟩
   have:k*W<=(k+1)*W:=Nat.mul_le_mul_right _ (by omega)
   omega
  simp only [List.length_cons,List.range'_succ,wpOps,ho]
  simp only [exOps] at he
  cases hg:o.guard with
  |none=>
   rw [hg] at he
   simp only at he
   have hw:Region.wanted o (yielded ops a.tmps)=true:=by unfold Region.wanted;rw [hg]
   rw [if_pos hw]
   exact .inl (doIt env r he)
  |some jw=>
   obtain ⟨j,want⟩:=jw
   rw [hg] at he
   simp only at he
   cases hdj:dstOf ops j with
   |none=>rw [hdj] at he;cases he
   |some g=>
    rw [hdj] at he
    simp only at he
    have hwant:Region.wanted o (yielded ops a.tmps)=(yielded ops a.tmps j == some want):=by unfold Region.wanted;rw [hg]
    split at he
    ·rename_i b hb
     have hv:=r.env g
     rw [hb] at hv
     have hy:=yielded_bool hdj hv.bool_inv
     rw [hwant,hy]
     split at he
     ·simp only [beq_self_eq_true,if_true]
      exact .inl (doIt _ (stRel_same r hb) he)
     ·simp only [beq_self_eq_true,if_true]
      exact .inl (doIt _ (stRel_same r hb) he)
     ·rw [if_neg (by simp)]
      exact skip _ (stRel_same r hb) he
     ·rw [if_neg (by simp)]
      exact skip _ (stRel_same r hb) he
    ·rename_i hb
     have hv:=r.env g
     rw [hb] at hv
     obtain ⟨vs,e1,e2⟩:=hv.tup_inv
     cases e2
     have hy:=yielded_none hdj e1
     rw [hwant,hy,if_neg (by simp)]
     exact skip _ r he
    ·cases he
def Post (X:Cst) (N pin:Nat) (F0:Nat->Prop) (w0:World) (β0:Nat->Option Conc) (e:Exit) (s:St):Exit->Act->World->Prop:=
 fun e' a w=>e'=e/\Rel X N pin F0 w0 β0 s.env s.heap s.next a w
theorem least {p:Nat->Prop} (h:∃ n,p n):∃ n,p n/\∀ m,p m->n<=m:=by
 obtain ⟨n,hn⟩:=h
 induction n using Nat.strongRecOn with
 |_ n ih=>
  by_cases hx:∃ m,m<n/\p m
  ·obtain ⟨m,h1,h2⟩:=hx;exact ih m h1 h2
  ·refine ⟨n,hn,fun m hm=>?_⟩
   rcases Nat.lt_or_ge m n with h|h
   ·exact absurd ⟨m,h,hm⟩ hx
   ·exact h
open Classical in
noncomputable def leastOf (p:Nat->Prop):Nat:=if h:∃ n,p n then Classical.choose (least h) else 0
theorem leastOf_spec {p:Nat->Prop} (h:∃ n,p n):p (leastOf p)/\∀ m,p m->leastOf p<=m:=by
 unfold leastOf
 rw [dif_pos h]
 exact Classical.choose_spec (least h)
theorem findLabel_dst {N:Nat} {l:Nat}:∀ {c rest:Code},findLabel c l=some rest->dstOK N c=true->dstOK N rest=true
 |.seq a b,rest,h,hd=>by
  simp only [dstOK,Bool.and_eq_true] at hd
  simp only [findLabel] at h
  split at h
  ·rename_i r hr
   cases h
   simp only [dstOK,Bool.and_eq_true]
   exact ⟨findLabel_dst hr hd.1,hd.2⟩
  ·exact findLabel_dst h hd.2
 |.label l',rest,h,hd=>by
  simp only [findLabel] at h
  split at h
  ·cases h;rfl
  ·cases h
 |.skip,_,h,_ | .region ..,_,h,_ | .cond ..,_,h,_ | .block ..,_,h,_ | .loop ..,_,h,_ | .exit ..,_,h,_ | .ret,_,h,_ | .goto ..,_,h,_ | .scope ..,_,h,_ | .rangeFunc ..,_,h,_ | .refuse ..,_,h,_=>by simp only [findLabel] at h;cases h
theorem goIn_some {x:Code} {q:Nat×Code} (h:goIn x=some q):findLabel x q.1=some q.2:=by
 unfold goIn at h
 split at h
 ·obtain ⟨l,h1,h2⟩:=zB.1 h
  obtain ⟨r,h3,rfl⟩:=zM.1 h2
  exact h3
 ·cases h
theorem swapG_norm {l:Nat} {e:Exit} (h:swapG l e=some .normal):e=.goto l:=by
 unfold swapG at h
 split at h
 ·split at h
  ·rename_i e;rw [e]
  ·cases h
 ·cases h
 ·cases h
theorem swapG_other {l:Nat} {e e':Exit} (h:swapG l e=some e') (hn:e'≠.normal):e=.ret/\e'=.ret:=by
 unfold swapG at h
 split at h
 ·split at h
  ·cases h;exact absurd rfl hn
  ·cases h
 ·cases h;exact ⟨rfl,rfl⟩
 ·cases h
end
end
end Go.LM
