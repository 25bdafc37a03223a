/- LmF: LmK3 LmRow LmArg. -/
import Derived.Test.YtedcnpankkaboaaGreatLmE
import Derived.ProofKit
import Derived.OpenShut
set_option linter.unusedSimpArgs false
set_option linter.unusedVariables false
namespace Go.LM
section
section
variable {P:Program} {F:Nat->Prop} {w:World} {β:Nat->Option Conc}
theorem argEnv_rel:∀ {l:List AV} {vs:List Value} {k:Nat},RelVs F w β l vs->∀ t,RelV F w β (argEnv l t) ((vs++List.replicate k undef).getD t undef)
 | [],_,k,.nil,t=>by simp only [argEnv];exact .any _
 |_,_,k,.cons a l v vs h1 h2,0=>by simpa [argEnv] using h1
 |_,_,k,.cons a l v vs h1 h2,t+1=>by
  have:=argEnv_rel (k:=k) h2 t
  simpa [argEnv] using this
def resultOf (tmps:Array Value):ResultVar->Sem Value
 |.tmp t=>pure (tmps.getD t undef)
 |.cell a t=>do loadVar t (←asAddr (tmps.getD a undef))
theorem loadAt_cell {T:TypeId} {H:Heap} {X:Cst} (g:Good X F w β H) {a v:AV} {u:Value} (h:exLoad P T H a=some v) (ha:RelV F w β a u) :
  ∃ r,((do loadVar T (←asAddr u):Sem Value)).run P w=.ok r w/\RelV F w β v r:=by
 obtain ⟨r,h1,h2⟩:=sim_load g h ha
 have:∃ ad:Addr,u=.pointer (some ad):=by
  unfold exLoad at h
  split at h
  ·obtain ⟨b,o,us,e,_⟩:=ha.fptr_inv;exact ⟨_,e⟩
  ·obtain ⟨c,b,o,e,_⟩:=ha.ptr_inv;exact ⟨_,e⟩
  ·cases h
 obtain ⟨ad,rfl⟩:=this
 refine ⟨r,?_,h2⟩
 rw [←h1]
 rfl
theorem results_list {H:Heap} {X:Cst} (g:Good X F w β H) {env:Nat->AV} {a:Act} (he:EnvRel F w β env a):∀ (l:List ResultVar) (vs:List AV),exResult P H env l=some vs ->
  ∃ us,(l.mapM (resultOf a.tmps)).run P w=.ok us w/\RelVs F w β vs us
 | [],vs,h=>by simp only [exResult] at h;cases h;exact ⟨[],by simp [pure,Sem.run],.nil⟩
 |.tmp t::l,vs,h=>by
  simp only [exResult] at h
  cases hr:exResult P H env l with
  |none=>rw [hr] at h;cases h
  |some vs'=>
   rw [hr] at h
   cases h
   obtain ⟨us,h1,h2⟩:=results_list g he l vs' hr
   refine ⟨a.tmps.getD t undef::us,?_,.cons _ _ _ _ (he t) h2⟩
   simp only [List.mapM_cons,Sem.run_bind,resultOf,pure,Sem.run,Result.andThen_ok,h1]
 |.cell x t::l,vs,h=>by
  simp only [exResult] at h
  cases hv:exLoad P t H (env x) with
  |none=>rw [hv] at h;cases h
  |some v=>
  rw [hv] at h
  simp only [zb] at h
  cases hr:exResult P H env l with
  |none=>rw [hr] at h;cases h
  |some vs'=>
   rw [hr] at h
   cases h
   obtain ⟨us,h1,h2⟩:=results_list g he l vs' hr
   obtain ⟨r,h3,h4⟩:=loadAt_cell g hv (he x)
   refine ⟨r::us,?_,.cons _ _ _ _ h4 h2⟩
   simp only [List.mapM_cons]
   rw [Sem.run_bind,show resultOf a.tmps (.cell x t)=(do loadVar t (←asAddr (a.tmps.getD x undef))) from rfl,h3]
   simp only [Result.andThen_ok,Sem.run_bind,h1,pure,Sem.run]
theorem results_run {fn:Func} {H:Heap} {X:Cst} (g:Good X F w β H) {env:Nat->AV} {a:Act} (he:EnvRel F w β env a) {vs:List AV} (h:exResult P H env fn.results.toList=some vs) :
  ∃ v,(results fn a.tmps).run P w=.ok v w/\RelV F w β (oneOf vs) v:=by
 obtain ⟨us,h1,h2⟩:=results_list g he _ _ h
 have hm:(fn.results.mapM (resultOf a.tmps)).run P w=.ok us.toArray w:=by
  rw [Array.mapM_eq_mapM_toList,Sem.run_map,h1]
  rfl
 have hf:results fn a.tmps=(do let vs ←fn.results.mapM (resultOf a.tmps);pure (if h:vs.size=1 then vs[0] else .tuple vs):Sem Value):=by
  unfold results resultOf
  congr 1
 refine ⟨if h:us.toArray.size=1 then us.toArray[0] else .tuple us.toArray,?_,?_⟩
 ·rw [hf,Sem.run_bind,hm]
  rfl
 ·match vs,us,h2 with
  | [],_,.nil=>exact .tup [] [] .nil
  | [v],_,.cons _ _ u _ h3 .nil=>exact h3
  |v::v'::vs,_,.cons _ _ u _ h3 (.cons _ _ u' us h4 h5)=>
   have:¬ ((u::u'::us).toArray.size=1):=by simp
   rw [dif_neg this]
   exact .tup _ _ (.cons _ _ _ _ h3 (.cons _ _ _ _ h4 h5))
def fitF (fn:Func):Bool:=match fn.body with|none=>true|some c=>!(fn.name == "runtime.NumGoroutine")&&dstOK fn.ntmps c
def fitP (P:Program):Bool:=P.funcs.toList.all fitF
end
end
section
open Go.ChangeShapes Go.WideShapes Go.ChangeAt Go.RowKit
def Old (W W':World):Prop:=(W'.os=W.os/\W'.output=W.output)/\∀ b,b<W.heap.size->W'.heap[b]?=W.heap[b]?
def noB:Nat->Option Conc:=fun _=>none
def noH:Heap:=fun _=>none
section
variable {H:Type} {enc:TypeId×Value->H} {P:Program}
theorem trodAll_stays {W W':World} {sp:Nat->Bool} (hl:laidOutB P=true):∀ {ts:List TypeId} {vs:List Value} {ds:List (DataW H)} {ps:List MemPlace},DataW.TrodAll enc P W 0 (fun _=>true) true ts vs ds ps ->
  (ts.all fun t=>P.readableRec t&&decide (t<P.types.size))=true->(∀ p∈ps,W.sameAt W' p)->(∀ p∈ps,sp p.block=true)->DataW.TrodAll enc P W' 0 sp true ts vs ds ps
 | [],[],[],ps,h,_,_,_=>h
 |t::ts,v::vs,d::ds,ps,h,ht,hs,hp=>by
  obtain ⟨p,q,h1,h2,rfl⟩:=h
  simp only [List.all_cons,Bool.and_eq_true,decide_eq_true_eq] at ht
  exact ⟨p,q,WideElems.Trod_stays hl ht.1.1 ht.1.2 h1 (fun x hx=>hs x (List.mem_append_left _ hx)) (fun x hx=>hp x (List.mem_append_left _ hx)),
   trodAll_stays hl h2 (by simpa using ht.2) (fun x hx=>hs x (List.mem_append_right _ hx)) (fun x hx=>hp x (List.mem_append_right _ hx)),rfl⟩
 | [],_::_,_,_,h,_,_,_=>h.elim
 | [],[],_::_,_,h,_,_,_=>h.elim
 |_::_,[],_,_,h,_,_,_=>h.elim
 |_::_,_::_,[],_,h,_,_,_=>h.elim
theorem law_post {fn:Func} {s:ChangeSpec} {apart fresh handsOn again:Bool} {W W':World} {args:Array Value} {ds gs:List (DataW H)} {before:List MemPlace} {T:TypeId}
  (hl:laidOutB P=true) (hr:(fn.params.toList.all fun t=>P.readableRec t&&decide (t<P.types.size))=true) (hT:fn.resultTypes=#[T]) (hb:P.underlying T=some .bool) (hvars:s.vars=[])
  (hW:DataW.Whole enc P fn.params.toList s.vars apart W args.toList ds gs before) (h1:(s.fn H (ds++gs)).results=[.lit (.bool true)]) (h2:(s.fn H (ds++gs)).args=ds) (h3:(s.fn H (ds++gs)).vars=[])
  (ho:Old W W'):s.post enc P fn apart fresh handsOn again W args (.bool true) W':=by
 have hlt:=hW.lt
 have hW':=hW
 obtain ⟨p,q,hA,hV,rfl,hz,hn⟩:=hW'
 rw [hvars] at hV
 obtain ⟨rfl,rfl⟩:=trodVars_none hV
 simp only [List.append_nil] at hz hn hlt h1 h2 h3
 have hsame:∀ x∈p,W.sameAt W' x:=fun x hx=>by
  have hb:=ho.2 x.block (hlt x hx)
  cases x with
  |cell b o=>exact World.cell?_of_block (w:=W) hb
  |map b=>exact hb
 have hres:∀ (b:Nat) (sp:Nat->Bool) (hd:Bool),DataW.TrodAll enc P W' b sp hd fn.resultTypes.toList ((Value.bool true).resultList fn.resultTypes.size) [.lit (.bool true)] []:=fun b sp hd=>by
  rw [hT]
  exact trodAll_mk1 ⟨1,by simp [DataW.trod,Value.cells,hb]⟩
 have hargs:∀ sp:Nat->Bool,(∀ x∈p,sp x.block=true)->DataW.TrodAll enc P W' 0 sp true fn.params.toList args.toList ds p:=fun sp hsp=>trodAll_stays hl hA hr hsame hsp
 have hold:∀ x∈p,(fun b=>decide (b<W.heap.size)) x.block=true:=fun x hx=>by simpa using hlt x hx
 refine ⟨ds,[],p++[],[],p,[],hW,?_,?_,?_,?_,fun _=>⟨?_,[.lit (.bool true)]++ds,[],([]++p)++[],⟨[]++p,[],?_,?_,rfl,?_,?_⟩,?_⟩⟩
 ·simp only [List.append_nil];rw [h1];exact hres _ _ _
 ·simp only [List.append_nil];rw [h2];exact hargs _ hold
 ·simp only [List.append_nil];rw [h3,hvars];rfl
 ·refine ⟨ho.1.1,ho.1.2,fun i hi=>?_⟩
  rw [ho.2 i hi]
  split<;>simp_all
 ·intro j t r hj hrr
  rw [hT] at hj hrr
  cases j with
  |zero=>
   simp [Value.resultList] at hj hrr
   subst hj;subst hrr
   simp [Value.okWide,hb,Cell.okWide,Cell.ok]
  |succ j=>simp at hj
 ·exact trodAll_append (hargs _ (fun _ _=>rfl)) (hres _ _ _)
 ·rw [hvars];rfl
 ·intro b off hp
  simp only [List.nil_append,List.append_nil] at hp
  rw [World.frozen?_of_block (w:=W) (a:=⟨b,off,none⟩) (ho.2 b (hlt _ hp))]
  exact hz b off hp
 ·intro ha
  simpa using hn ha
 ·intro x hx _
  simpa using hx
end
end
section
open Go.ChangeShapes Go.WideShapes Go.ChangeAt Go.RowKit
def okD:(t:Ty)->t.D->Prop
 |.int k,x=>(Lit.int k (toI k x)).wf=true
 |.bool,_=>True
 |.str,x=>List.length (α:=UInt8) x<=maxLen
 |.sl e,xs=>List.length (α:=e.D) xs<=maxLen/\∀ x∈(xs:List e.D),okD e x
 |.un,_=>True
 |.pr a b,x=>okD a x.1/\okD b x.2
 |.ar n e,xs=>List.length (α:=e.D) xs=n/\∀ x∈(xs:List e.D),okD e x
theorem choose_list {α:Type} {p:Nat->α->Prop}:∀ (n:Nat),(∀ i,i<n->∃ y,p i y)->∃ ys:List α,ys.length=n/\∀ i (h:i<ys.length),p i ys[i]
 |0,_=>⟨[],rfl,fun i h=>by simp at h⟩
 |n+1,h=>by
  obtain ⟨ys,h1,h2⟩:=choose_list n fun i hi=>h i (by omega)
  obtain ⟨y,hy⟩:=h n (by omega)
  refine ⟨ys++[y],by simp [h1],fun i hi=>?_⟩
  by_cases e:i<ys.length
  ·rw [List.getElem_append_left e];exact h2 i e
  ·simp at hi
   have:i=n:=by omega
   subst this
   rw [List.getElem_append_right (by omega)]
   simp [h1];exact hy
section
variable {H:Type} {enc:TypeId×Value->H} {P:Program} {W:World} {held:Bool}
theorem cells_at {a:Addr} {n:Nat} {cs:List Value} (hn:0<n) (h:W.cells? 0 a n=some cs):a.spot=none/\At W a.block a.off n cs/\a.block<W.heap.size:=by
 unfold World.cells? at h
 rw [if_pos (Nat.zero_le _)] at h
 have hlen:∀ (l:List Nat) (cs:List Value),(l.mapM fun i=>W.cell? (a.add i))=some cs->cs.length=l.length/\∀ i (hi:i<l.length),W.cell? (a.add l[i])=cs[i]?:=by
  intro l
  induction l with
  |nil=>intro cs h;simp at h;subst h;exact ⟨rfl,fun i hi=>by simp at hi⟩
  |cons x l ih=>
   intro cs h
   simp only [List.mapM_cons] at h
   cases hx:W.cell? (a.add x) with
   |none=>rw [hx] at h;cases h
   |some v=>
    rw [hx] at h
    cases hl:l.mapM fun i=>W.cell? (a.add i) with
    |none=>rw [hl] at h;cases h
    |some vs=>
     rw [hl] at h;cases h
     obtain ⟨h1,h2⟩:=ih vs hl
     refine ⟨by simp [h1],fun i hi=>?_⟩
     cases i with
     |zero=>simp [hx]
     |succ i=>simp;exact h2 i (by simpa using hi)
 obtain ⟨h1,h2⟩:=hlen _ _ h
 simp only [List.length_range] at h1 h2
 have h3:∀ i,i<n->W.cell? (a.add i)=cs[i]?:=fun i hi=>by have:=h2 i hi;simpa using this
 have h00:=h3 0 hn
 have hc0:cs[0]?=some cs[0]:=List.getElem?_eq_getElem (by omega)
 rw [hc0] at h00
 obtain ⟨b,o,sp⟩:=a
 have hs:sp=none:=by
  cases sp with
  |none=>rfl
  |some q=>
   exfalso
   unfold World.cell? at h00
   simp only [Addr.add] at h00
   split at h00
   ·simp at h00
   ·cases h00
 subst hs
 cases hh:W.heap[b]? with
 |none=>unfold World.cell? at h00;simp [Addr.add,hh] at h00
 |some ob=>
  cases ob with
  |cells c T f=>
   have hca:cellsAt W b=some c.toList:=by unfold cellsAt;rw [hh]
   have hlt:b<W.heap.size:=(Array.getElem?_eq_some_iff.1 hh).1
   have h4:∀ i,i<n->c.toList[o+i]?=cs[i]?:=fun i hi=>by
    rw [←h3 i hi]
    have:=cell_of_cellsAt hca (o+i)
    rw [addr_add];exact this.symm
   refine ⟨rfl,⟨c.toList,hca,?_,?_⟩,hlt⟩
   ·have h5:=h4 (n - 1) (by omega)
    have:cs[n - 1]?=some cs[n - 1]:=List.getElem?_eq_getElem (by omega)
    rw [this] at h5
    have:=(List.getElem?_eq_some_iff.1 h5).1
    show o+n<=c.toList.length
    omega
   ·apply List.ext_getElem?
    intro i
    rw [List.getElem?_take]
    by_cases hi:i<n
    ·rw [if_pos hi,List.getElem?_drop,h4 i hi]
    ·rw [if_neg hi,List.getElem?_eq_none (by omega)]
  |_=>unfold World.cell? at h00;simp [Addr.add,hh] at h00
theorem add_block (a:Addr) (k:Nat):(a.add k).block=a.block:=by unfold Addr.add;split<;>rfl
theorem add_off (a:Addr) (k:Nat):(a.add k).off=a.off+k:=by
 unfold Addr.add
 split
 ·rename_i h
  have:k=0:=by simpa using h
  omega
 ·rfl
def szP (P:Program):Bool:=(List.range P.types.size).all fun T=>match P.underlying T with|some (.slice e)=>decide (0<P.cellsOf e)|_=>true
theorem isVar_of {T:TypeId} {d:TypeDesc} (h:P.underlying T=some d) (hT:T<P.types.size) (hk:kindOk (some d)=true):isVar P T=true:=by
 simp only [isVar,Bool.and_eq_true,decide_eq_true_eq];exact ⟨hT,by rw [h];exact hk⟩
theorem isVar_lt {T:TypeId} (h:isVar P T=true):T<P.types.size:=by
 simp only [isVar,Bool.and_eq_true,decide_eq_true_eq] at h;exact h.1
end
end
end Go.LM
