/- LmB: LmR1 LmM LmR2 LmS1 LmS2 LmS3 LmS4 LmS5 LmS6. -/
import Derived.Test.YtedcnpankkaboaaGreatLmA
import Derived.Laws.StructEq
import Derived.ChangeKeysEq
set_option linter.unusedSimpArgs false
set_option linter.unusedVariables false
namespace Go.LM
section
theorem At.len {w b off n vs} (h:At w b off n vs):vs.length=n:=by
 obtain ⟨l,_,h2,rfl⟩:=h
 simp;omega
theorem rep_len {F w}:∀ (t:Ty) (x:t.D) (vs:List Value),rep F w t x vs->vs.length=t.sz
 |.int _,_,_,h=>by simp only [rep] at h;subst h;rfl
 |.bool,_,_,h=>by simp only [rep] at h;subst h;rfl
 |.str,_,_,h=>by simp only [rep] at h;subst h;rfl
 |.sl _,_,_,h=>by simp only [rep] at h;obtain ⟨A,c,rfl,_⟩:=h;rfl
 |.un,_,_,h=>by simp only [rep] at h;subst h;rfl
 |.pr a b,x,_,h=>by
  simp only [rep] at h
  obtain ⟨us,ws,rfl,h1,h2⟩:=h
  simp [Ty.sz,rep_len a _ _ h1,rep_len b _ _ h2]
 |.ar n e,_,_,h=>by simp only [rep] at h;simpa [Ty.sz] using h.2.1
theorem At.mono {w w' b off n vs} (h:At w b off n vs) (e:cellsAt w' b=cellsAt w b):At w' b off n vs:=by
 obtain ⟨l,h1,h2⟩:=h
 exact ⟨l,e.trans h1,h2⟩
theorem rep_mono {F F':Nat->Prop} {w w':World} (hF:∀ b,F b->F' b/\cellsAt w' b=cellsAt w b) :
  ∀ (t:Ty) (x:t.D) (vs:List Value),rep F w t x vs->rep F' w' t x vs
 |.int _,_,_,h=>by simpa only [rep] using h
 |.bool,_,_,h=>by simpa only [rep] using h
 |.str,_,_,h=>by simpa only [rep] using h
 |.sl e,xs,_,h=>by
  simp only [rep] at h ⊢
  obtain ⟨A,c,h1,h2,h3⟩:=h
  refine ⟨A,c,h1,h2,h3.imp id ?_⟩
  rintro ⟨b,off,hA,hb,hi⟩
  refine ⟨b,off,hA,(hF b hb).1,fun i h=>?_⟩
  obtain ⟨us,hu,hr⟩:=hi i h
  exact ⟨us,hu.mono (hF b hb).2,rep_mono hF e _ _ hr⟩
 |.un,_,_,h=>by simpa only [rep] using h
 |.pr a b,x,_,h=>by
  simp only [rep] at h ⊢
  obtain ⟨us,ws,h0,h1,h2⟩:=h
  exact ⟨us,ws,h0,rep_mono hF a _ _ h1,rep_mono hF b _ _ h2⟩
 |.ar n e,_,_,h=>by
  simp only [rep] at h ⊢
  exact ⟨h.1,h.2.1,fun i hi=>rep_mono hF e _ _ (h.2.2 i hi)⟩
theorem OwnS.mono {F F':Nat->Prop} {w w':World} (hF:∀ b,F b->F' b/\cellsAt w' b=cellsAt w b) {e:Ty} {xs:List e.D} {A:Option Addr} {n c:Nat} (h:OwnS F w e xs A n c)
  (hb:∀ b o,A=some ⟨b,o,none⟩->0<c->w'.heap[b]?=w.heap[b]?):OwnS F' w' e xs A n c:=by
 obtain ⟨h1,h2,h3⟩:=h
 refine ⟨h1,h2,?_⟩
 rcases h3 with h3|⟨b,l,h3,h4,h5,h6,h7⟩
 ·exact .inl h3
 ·by_cases hc:c=0
  ·exact .inl hc
  ·have hh:=hb b 0 h3 (by omega)
   refine .inr ⟨b,l,h3,?_,h5,fun i hi=>rep_mono hF _ _ _ (h6 i hi),fun o ho=>?_⟩
   ·rw [←h4];unfold cellsAt;rw [hh]
   ·rw [←h7 o ho];unfold frz;simp only [hh]
theorem repO_len0 {F:Nat->Prop} {w:World} {ho:Option Nat}:∀ (t:Ty) (off:Nat) (x:t.D) (vs:List Value),repO F w ho off t x vs->vs.length=t.sz
 |.sl e,off,xs,vs,h=>by simp only [repO] at h;obtain ⟨A,n,c,rfl,_⟩:=h;rfl
 |.pr a b,off,x,vs,h=>by
  simp only [repO] at h
  obtain ⟨us,ws,rfl,h1,h2⟩:=h
  simp [Ty.sz,repO_len0 a _ _ _ h1,repO_len0 b _ _ _ h2]
 |.int k,_,x,vs,h=>rep_len _ _ _ h
 |.bool,_,x,vs,h=>rep_len _ _ _ h
 |.str,_,x,vs,h=>rep_len _ _ _ h
 |.un,_,x,vs,h=>rep_len _ _ _ h
 |.ar n e,_,x,vs,h=>rep_len _ _ _ h
theorem repO_mono {F F':Nat->Prop} {w w':World} (hF:∀ b,F b->F' b/\cellsAt w' b=cellsAt w b) {ho:Option Nat} :
  ∀ (t:Ty) (off:Nat) (x:t.D) (vs:List Value),repO F w ho off t x vs->(∀ (k:Nat) b o n c,ho≠some (off+k)->vs[k]?=some (.slice (some ⟨b,o,none⟩) n c)->0<c->w'.heap[b]?=w.heap[b]?)->repO F' w' ho off t x vs
 |.sl e,off,xs,vs,h,hb=>by
  simp only [repO] at h ⊢
  obtain ⟨A,n,c,rfl,h⟩:=h
  exact ⟨A,n,c,rfl,fun hne=>(h hne).mono hF fun b o hA hc=>hb 0 b o n c (by simpa using hne) (by simp [hA]) hc⟩
 |.pr a b,off,x,vs,h,hb=>by
  simp only [repO] at h ⊢
  obtain ⟨us,ws,rfl,h1,h2⟩:=h
  have hlen:us.length=a.sz:=repO_len0 a off _ us h1
  exact ⟨us,ws,rfl,repO_mono hF a off _ _ h1 (fun k b o n c h3 h4 h5=>hb k b o n c h3 (by rw [List.getElem?_append_left (List.getElem?_eq_some_iff.1 h4).1];exact h4) h5),
   repO_mono hF b _ _ _ h2 (fun k b o n c h3 h4 h5=>hb (a.sz+k) b o n c (by rw [←Nat.add_assoc];exact h3) (by rw [List.getElem?_append_right (by omega),hlen,Nat.add_sub_cancel_left];exact h4) h5)⟩
 |.int k,_,x,vs,h,_=>by simp only [repO] at h ⊢;exact rep_mono hF _ _ _ h
 |.bool,_,x,vs,h,_=>by simp only [repO] at h ⊢;exact rep_mono hF _ _ _ h
 |.str,_,x,vs,h,_=>by simp only [repO] at h ⊢;exact rep_mono hF _ _ _ h
 |.un,_,x,vs,h,_=>by simp only [repO] at h ⊢;exact rep_mono hF _ _ _ h
 |.ar n e,_,x,vs,h,_=>by simp only [repO] at h ⊢;exact rep_mono hF _ _ _ h
structure Ext (F:Nat->Prop) (w:World) (β:Nat->Option Conc) (F':Nat->Prop) (w':World) (β':Nat->Option Conc):Prop where
 f:∀ b,F b->F' b/\cellsAt w' b=cellsAt w b
 b:∀ id c,β id=some c->β' id=some c
theorem Ext.refl {F w β}:Ext F w β F w β:=⟨fun _ h=>⟨h,rfl⟩,fun _ _ h=>h⟩
theorem Ext.trans {F w β F' w' β' F'' w'' β''} (h:Ext F w β F' w' β') (h':Ext F' w' β' F'' w'' β''):Ext F w β F'' w'' β'':=
 ⟨fun b hb=>⟨(h'.f b (h.f b hb).1).1,(h'.f b (h.f b hb).1).2.trans (h.f b hb).2⟩,fun id c hc=>h'.b id c (h.b id c hc)⟩
section
variable {F:Nat->Prop} {w:World} {β:Nat->Option Conc} {F':Nat->Prop} {w':World} {β':Nat->Option Conc}
mutual
theorem RelC.mono (e:Ext F w β F' w' β'):∀ {a vs},RelC F w β a vs->RelC F' w' β' a vs
 |_,_,.dat t x vs h=>.dat t x vs (rep_mono e.f t x vs h)
 |_,_,.nilS=>.nilS
 |_,_,.nilP=>.nilP
 |_,_,.nilF=>.nilF
 |_,_,.full id c t len h1 h2 h3=>.full id c t len (e.b _ _ h1) h2 h3
 |_,_,.sub id off lo hi c n t A cap h1 h3 h4 h5 h6 h7 h8=>.sub id off lo hi c n t A cap (e.b _ _ h1) h3 h4 h5 h6 h7 h8
 |_,_,.ptr id p c b o h1 h2 h3=>.ptr id p c b o (e.b _ _ h1) h2 h3
 |_,_,.fptr t x b o us h1 h2 h3=>.fptr t x b o us (e.f _ h1).1 (h2.mono (e.f _ h1).2) (rep_mono e.f t x us h3)
 |_,_,.nz b t xs A n c h1 h2=>.nz b t xs A n c (rep_mono e.f (.sl t) xs _ h1) h2
 |_,_,.mpn t x=>.mpn t x
 |_,_,.mps t x b o us h1 h2 h3=>.mps t x b o us (e.f _ h1).1 (h2.mono (e.f _ h1).2) (rep_mono e.f t x us h3)
 |_,_,.fn f caps vs h=>.fn f caps vs (RelVs.mono e h)
 |_,_,.agg xs vs h=>.agg xs vs (RelCs.mono e h)
 |_,_,.mref id c k v b h1 h2 h3=>.mref id c k v b (e.b _ _ h1) h2 h3
theorem RelCs.mono (e:Ext F w β F' w' β'):∀ {a vs},RelCs F w β a vs->RelCs F' w' β' a vs
 |_,_,.nil=>.nil
 |_,_,.cons a l us vs h1 h2 h3=>.cons a l us vs (RelC.mono e h1) h2 (RelCs.mono e h3)
theorem RelV.mono (e:Ext F w β F' w' β'):∀ {a v},RelV F w β a v->RelV F' w' β' a v
 |_,_,.one a v h1 h2=>.one a v h1 (RelC.mono e h2)
 |_,_,.many a cs h1 h2=>.many a cs h1 (RelC.mono e h2)
 |_,_,.tup xs vs h=>.tup xs vs (RelVs.mono e h)
 |_,_,.any v=>.any v
theorem RelVs.mono (e:Ext F w β F' w' β'):∀ {a vs},RelVs F w β a vs->RelVs F' w' β' a vs
 |_,_,.nil=>.nil
 |_,_,.cons a l v vs h1 h2=>.cons a l v vs (RelV.mono e h1) (RelVs.mono e h2)
end
end
theorem RelCs.len {F w β}:∀ {a vs},RelCs F w β a vs->vs.length=cellsL a
 |_,_,.nil=>rfl
 |_,_,.cons a l us vs _ h2 h3=>by simp [cellsL,h2,h3.len]
theorem RelCs.append {F w β}:∀ {a vs b us},RelCs F w β a vs->RelCs F w β b us->RelCs F w β (a++b) (vs++us)
 |_,_,_,_,.nil,h=>h
 |_,_,_,_,.cons a l us vs h1 h2 h3,h=>by
  rw [List.cons_append,List.append_assoc]
  exact .cons a _ us _ h1 h2 (h3.append h)
theorem leavesD_rel {F w β}:∀ (t:Ty) (x:t.D) (vs:List Value),rep F w t x vs->RelCs F w β (leavesD t x) vs:=by
 intro t
 have one:∀ (t:Ty) (x:t.D) (vs:List Value),rep F w t x vs->leavesD t x=[.dat t x]->RelCs F w β (leavesD t x) vs:=by
  intro t x vs h e
  rw [e,←List.append_nil vs]
  exact .cons _ _ _ _ (.dat t x vs h) (rep_len t x vs h) .nil
 induction t with
 |un=>intro x vs h;simp only [rep] at h;subst h;exact .nil
 |pr a b iha ihb=>
  intro x vs h
  simp only [rep] at h
  obtain ⟨us,ws,rfl,h1,h2⟩:=h
  exact (iha _ _ h1).append (ihb _ _ h2)
 |int k=>intro x vs h;exact one _ x vs h rfl
 |bool=>intro x vs h;exact one _ x vs h rfl
 |str=>intro x vs h;exact one _ x vs h rfl
 |sl e=>intro x vs h;exact one _ x vs h rfl
 |ar n e=>intro x vs h;exact one _ x vs h rfl
theorem RelV.leaves {F w β a v} (h:RelV F w β a v) (hne:∀ xs,a≠.tup xs) (ha:a≠.any):RelCs F w β a.leaves v.cells.toList:=by
 cases h with
 |one a v h1 h2=>
  cases a with
  |agg=>cases h1
  |tup xs=>exact absurd rfl (hne xs)
  |any=>exact absurd rfl ha
  |dat t x=>
   cases h2 with
   |dat _ _ _ hr=>
   have hv:v.cells=#[v]:=by
    cases t<;>simp [isMany] at h1<;>simp only [rep] at hr
    ·injection hr with e _;subst e;rfl
    ·injection hr with e _;subst e;rfl
    ·injection hr with e _;subst e;rfl
    ·obtain ⟨A,c,e,_⟩:=hr;injection e with e _;subst e;rfl
   rw [hv]
   have hl:(AV.dat t x).leaves=[.dat t x]:=by cases t<;>simp [isMany] at h1<;>rfl
   rw [hl]
   exact .cons _ _ [v] [] (.dat t x _ hr) (rep_len t x _ hr) .nil
  |nilS=>cases h2;exact .cons _ _ [_] [] .nilS rfl .nil
  |nilP=>cases h2;exact .cons _ _ [_] [] .nilP rfl .nil
  |nilF=>cases h2;exact .cons _ _ [_] [] .nilF rfl .nil
  |full id=>cases h2 with|full _ c t len h1 h2 h3=>exact .cons _ _ [_] [] (.full id c t len h1 h2 h3) rfl .nil
  |mref id=>cases h2 with|mref _ c k v b h1 h2 h3=>exact .cons _ _ [_] [] (.mref id c k v b h1 h2 h3) rfl .nil
  |sub id off lo hi=>cases h2 with|sub _ _ _ _ c n t A cap h1 h3 h4 h5 h6 h7 h8=>exact .cons _ _ [_] [] (.sub id off lo hi c n t A cap h1 h3 h4 h5 h6 h7 h8) rfl .nil
  |ptr id p=>cases h2 with|ptr _ _ c b o h1 h2 h3=>exact .cons _ _ [_] [] (.ptr id p c b o h1 h2 h3) rfl .nil
  |fptr t x=>cases h2 with|fptr _ _ b o us h1 h2 h3=>exact .cons _ _ [_] [] (.fptr t x b o us h1 h2 h3) rfl .nil
  |nz b t xs=>cases h2 with|nz _ _ _ A n c h1 h2=>exact .cons _ _ [_] [] (.nz b t xs A n c h1 h2) rfl .nil
  |mp b t x=>cases h2 with
   |mpn _ _=>exact .cons _ _ [_] [] (.mpn t x) rfl .nil
   |mps _ _ b o us k1 k2 k3=>exact .cons _ _ [_] [] (.mps t x b o us k1 k2 k3) rfl .nil
  |fn f caps=>cases h2 with|fn _ _ vs h=>exact .cons _ _ [_] [] (.fn f caps vs h) rfl .nil
 |many a cs h1 h2=>
  show RelCs F w β a.leaves cs
  cases h2 with
  |agg xs vs h=>exact h
  |dat t x vs hr=>
   cases t<;>simp [isMany] at h1
   ·exact leavesD_rel .un x cs hr
   ·exact leavesD_rel (.pr _ _) x cs hr
   ·exact leavesD_rel (.ar _ _) x cs hr
  |_=>cases h1
 |tup xs vs _=>exact absurd rfl (hne xs)
 |any v=>exact absurd rfl ha
end
section
def Sub (H H2:Heap):Prop:=∀ id b,H id=some b->H2 id=some b
section
variable {H H2:Heap}
theorem arrAt_mono (s:Sub H H2) {id off:Nat} {r} (h:arrAt H id off=some r):arrAt H2 id off=some r:=by
 unfold arrAt at h ⊢
 cases hb:H id with
 |none=>rw [hb] at h;cases h
 |some b=>rw [hb] at h;rw [s id b hb];exact h
theorem arrV_mono (s:Sub H H2) {id off:Nat} {r} (h:arrV H id off=some r):arrV H2 id off=some r:=by
 unfold arrV at h ⊢
 split at h
 ·rename_i e xs hole hH
  rw [s id _ hH];exact h
 ·rename_i hn
  have h2:=h
  unfold arrAt at h2
  cases hb:H id with
  |none=>rw [hb] at h2;cases h2
  |some b=>
   rw [s id b hb]
   cases b with
   |deep e xs hole=>exact (hn _ _ _ hb).elim
   |_=>exact arrAt_mono s h
theorem isRowD_mono (s:Sub H H2) {id:Nat} (h:isRowD H (.full id)=true):isRowD H2 (.full id)=true:=by
 simp only [isRowD] at h ⊢
 cases hb:H id with
 |none=>rw [hb] at h;cases h
 |some b=>rw [s id b hb];rw [hb] at h;exact h
theorem isRowDA_mono (s:Sub H H2) {a:AV} (h:isRowD H a=true):isRowD H2 a=true:=by
 cases a with
 |full id=>exact isRowD_mono s h
 |sub id off lo hi=>
  simp only [isRowD,isRow] at h ⊢
  cases hb:H id with
  |none=>rw [hb] at h;cases h
  |some b=>rw [s id b hb];rw [hb] at h;exact h
 |_=>exact h
theorem arrLeaf_mono (s:Sub H H2) {id off:Nat} {r} (h:arrLeaf H id off=some r):arrLeaf H2 id off=some r:=by
 unfold arrLeaf at h ⊢
 cases hb:H id with
 |none=>rw [hb] at h;cases h
 |some b=>rw [hb] at h;rw [s id b hb];exact h
theorem isRow_mono (s:Sub H H2) {a:AV} (h:isRow H a=true):isRow H2 a=true:=by
 unfold isRow at h ⊢
 split at h
 ·rename_i id
  cases hb:H id with
  |none=>rw [hb] at h;cases h
  |some b=>rw [hb] at h;rw [s id b hb];exact h
 ·rename_i id _ _ _
  cases hb:H id with
  |none=>rw [hb] at h;cases h
  |some b=>rw [hb] at h;rw [s id b hb];exact h
 ·rfl
theorem elemsOf_mono (s:Sub H H2) {a:AV} {r} (h:elemsOf H a=some r):elemsOf H2 a=some r:=by
 unfold elemsOf at h ⊢
 split at h
 ·exact h
 ·exact h
 ·exact arrAt_mono s h
 ·rename_i id off lo hi
  cases ha:arrAt H id off with
  |none=>rw [ha] at h;cases h
  |some p=>rw [ha] at h;rw [arrAt_mono s ha];exact h
 ·cases h
theorem asList_mono (s:Sub H H2) {t:Ty} {a:AV} {r} (h:asList H t a=some r):asList H2 t a=some r:=by
 cases a<;>simp only [asList] at h ⊢<;>first
  |exact h
  |(cases he:elemsOf H _ with
    |none=>rw [he] at h;cases h
    |some p=>rw [he] at h;rw [elemsOf_mono s he];exact h)
theorem packU_mono (s:Sub H H2) (rows:Bool):∀ (u:Ty) (l:List AV) (r),packU H rows u l=some r->packU H2 rows u l=some r
 |.un,l,r,h=>by simpa only [packU] using h
 |.int k,l,r,h=>by simpa only [packU] using h
 |.bool,l,r,h=>by simpa only [packU] using h
 |.str,l,r,h=>by simpa only [packU] using h
 |.ar n e,l,r,h=>by simpa only [packU] using h
 |.pr a b,l,r,h=>by
  have comp:∀ r,((packU H rows a l).bind fun (x,l1)=>(packU H rows b l1).bind fun (y,l2)=>some ((x,y),l2))=some r ->
    ((packU H2 rows a l).bind fun (x,l1)=>(packU H2 rows b l1).bind fun (y,l2)=>some ((x,y),l2))=some r:=by
   intro r h
   cases h1:packU H rows a l with
   |none=>rw [h1] at h;cases h
   |some p=>
    rw [h1] at h
    simp only [zb] at h
    cases h2:packU H rows b p.2 with
    |none=>rw [h2] at h;cases h
    |some q=>
     rw [h2] at h
     rw [packU_mono s rows a l p h1]
     simp only [zb]
     rw [packU_mono s rows b p.2 q h2]
     exact h
  cases l with
  |nil=>simp only [packU] at h ⊢;exact comp r h
  |cons c rest=>
   cases c with
   |dat t x=>
    simp only [packU] at h ⊢
    split at h
    ·rename_i e;rw [if_pos e];exact h
    ·rename_i e;rw [if_neg e];exact comp r h
   |_=>simp only [packU] at h ⊢;exact comp r h
 |.sl e,l,r,h=>by
  have rowc:∀ (a:AV) (rest:List AV),(if rows&&isRow H a then (asList H e a).map fun y=>(y,rest) else none)=some r->(if rows&&isRow H2 a then (asList H2 e a).map fun y=>(y,rest) else none)=some r:=by
   intro a rest h
   split at h
   ·rename_i hc
    simp only [Bool.and_eq_true] at hc
    rw [if_pos (by simp [hc.1,isRow_mono s hc.2])]
    cases ha:asList H e a with
    |none=>rw [ha] at h;cases h
    |some y=>rw [ha] at h;rw [asList_mono s ha];exact h
   ·cases h
  cases l with
  |nil=>simp only [packU] at h;cases h
  |cons c rest=>
   cases c<;>simp only [packU] at h ⊢<;>first|exact h|exact rowc _ _ h
theorem pack_mono (s:Sub H H2) {rows:Bool} {u:Ty} {a:AV} {x} (h:pack H rows u a=some x):pack H2 rows u a=some x:=by
 unfold pack at h ⊢
 split at h
 ·rename_i hv
  rw [if_pos hv]
  cases hp:packU H rows u a.leaves with
  |none=>rw [hp] at h;cases h
  |some r=>rw [hp] at h;rw [packU_mono s rows u a.leaves r hp];exact h
 ·cases h
theorem setElems_mono (s:Sub H H2) {t:Ty}:∀ {l:List (Nat×AV)} {xs:List t.D} {r},setElems H t l xs=some r->setElems H2 t l xs=some r
 | [],xs,r,h=>by simpa only [setElems] using h
 |(i,v)::l,xs,r,h=>by
  simp only [setElems] at h ⊢
  cases hp:pack H true t v with
  |none=>rw [hp] at h;cases h
  |some x=>rw [hp] at h;rw [pack_mono s hp];exact setElems_mono s h
end
end
section
theorem cellsAt_of_heap {w w':World} {b:Nat} (h:w'.heap[b]?=w.heap[b]?):cellsAt w' b=cellsAt w b:=by
 unfold cellsAt;rw [h]
theorem frozen_of_heap {w w':World} {b:Nat} (h:w'.heap[b]?=w.heap[b]?) (o:Nat):frz w' ⟨b,o,none⟩=frz w ⟨b,o,none⟩:=by
 unfold frz;simp only [h]
def upd (β:Nat->Option Conc) (id:Nat) (c:Conc):Nat->Option Conc:=fun j=>if j=id then some c else β j
theorem upd_self {β id c}:upd β id c id=some c:=by simp [upd]
theorem upd_ne {β:Nat->Option Conc} {id j c} (h:j≠id):upd β id c j=β j:=by simp [upd,h]
theorem zJ {h:Heap} {id b}:Heap.set h id b id=some b:=by simp [Heap.set]
theorem zH {h:Heap} {id b j} (e:j≠id):Heap.set h id b j=h j:=by simp [Heap.set,e]
theorem noSl_cells {F:Nat->Prop} {w:World}:∀ (t:Ty) (x:t.D) (vs:List Value),rep F w t x vs->t.hasSl=false->∀ (k:Nat) A n c,vs[k]?≠some (.slice A n c)
 |.int _,x,vs,h,_,k,A,n,c=>by simp only [rep] at h;subst h;cases k<;>simp
 |.bool,x,vs,h,_,k,A,n,c=>by simp only [rep] at h;subst h;cases k<;>simp
 |.str,x,vs,h,_,k,A,n,c=>by simp only [rep] at h;subst h;cases k<;>simp
 |.sl e,x,vs,h,hs,k,A,n,c=>by cases hs
 |.un,x,vs,h,_,k,A,n,c=>by simp only [rep] at h;subst h;simp
 |.pr a b,x,vs,h,hs,k,A,n,c=>by
  simp only [rep] at h
  simp only [Ty.hasSl,Bool.or_eq_false_iff] at hs
  obtain ⟨us,ws,rfl,h1,h2⟩:=h
  by_cases hlt:k<us.length
  ·rw [List.getElem?_append_left hlt];exact noSl_cells a _ _ h1 hs.1 k A n c
  ·rw [List.getElem?_append_right (by omega)];exact noSl_cells b _ _ h2 hs.2 _ A n c
 |.ar m e,x,vs,h,hs,k,A,n,c=>by
  simp only [rep] at h
  obtain ⟨h1,h2,h3⟩:=h
  intro hk
  have hlt:=(List.getElem?_eq_some_iff.1 hk).1
  have hpos:0<e.sz:=by
   rcases Nat.eq_zero_or_pos e.sz with h|h
   ·rw [h] at h2;omega
   ·exact h
  have hi:k / e.sz<List.length (α:=e.D) x:=by rw [h1];exact (Nat.div_lt_iff_lt_mul hpos).2 (by omega)
  have:=noSl_cells e _ _ (h3 _ hi) hs (k % e.sz) A n c
  rw [List.getElem?_take,if_pos (Nat.mod_lt _ hpos),List.getElem?_drop] at this
  apply this
  rw [Nat.mul_comm,Nat.div_add_mod];exact hk
theorem slot_own {F:Nat->Prop} {w:World} {ho:Option Nat} {A:Option Addr} {n c:Nat}:∀ (t:Ty) (off:Nat) (x:t.D) (vs:List Value),repO F w ho off t x vs->∀ (k:Nat),ho≠some (off+k)->vs[k]?=some (.slice A n c)->deepK t=true->c=0\/∃ b,A=some ⟨b,0,none⟩
 |.sl e,off,xs,vs,h,k,hne,hk,_=>by
  simp only [repO] at h
  obtain ⟨A',n',c',rfl,h⟩:=h
  cases k with
  |zero=>
   simp at hk
   obtain ⟨rfl,rfl,rfl⟩:=hk
   rcases (h (by simpa using hne)).2.2 with h|⟨b,l,h,_⟩
   ·exact .inl h
   ·exact .inr ⟨b,h⟩
  |succ k=>simp at hk
 |.pr a b,off,x,vs,h,k,hne,hk,hd=>by
  simp only [repO] at h
  simp only [deepK,Bool.and_eq_true] at hd
  obtain ⟨us,ws,rfl,h1,h2⟩:=h
  have hlen:us.length=a.sz:=repO_len0 a off _ us h1
  by_cases hlt:k<us.length
  ·rw [List.getElem?_append_left hlt] at hk
   exact slot_own a off _ _ h1 k hne hk hd.1
  ·rw [List.getElem?_append_right (by omega)] at hk
   exact slot_own b _ _ _ h2 (k - us.length) (by rw [show off+a.sz+(k - us.length)=off+k by omega];exact hne) hk hd.2
 |.int _,_,x,vs,h,k,_,hk,_=>by simp only [repO,rep] at h;subst h;cases k<;>simp at hk
 |.bool,_,x,vs,h,k,_,hk,_=>by simp only [repO,rep] at h;subst h;cases k<;>simp at hk
 |.str,_,x,vs,h,k,_,hk,_=>by simp only [repO,rep] at h;subst h;cases k<;>simp at hk
 |.un,_,x,vs,h,k,_,hk,_=>by simp only [repO,rep] at h;subst h;simp at hk
 |.ar m e,_,x,vs,h,k,_,hk,hd=>by
  simp only [repO] at h
  simp only [deepK,Bool.not_eq_true'] at hd
  exact absurd hk (noSl_cells (.ar m e) x vs h hd k A n c)
theorem BRel.mono {F:Nat->Prop} {w β F' w' β'} (e:Ext F w β F' w' β') {c:Conc} {blk:Blk} (h:BRel F w β c blk)
  (hb':∀ b,Touch w c (some blk) b->w'.heap[b]?=w.heap[b]?):BRel F' w' β' c blk:=by
 have hb:∀ b,c.b=some b->w'.heap[b]?=w.heap[b]?:=fun b h=>hb' b (.inl h)
 cases blk with
 |dead=>trivial
 |deep ty xs hole=>
  simp only [BRel] at h ⊢
  obtain ⟨h0,h1,h2,h3,h3',h4⟩:=h
  refine ⟨h0,h1,h2,h3,h3',fun b hcb=>?_⟩
  obtain ⟨l,hl,hsz,hr,hfz,hho,hds⟩:=h4 b hcb
  refine ⟨l,(cellsAt_of_heap (hb b hcb)).trans hl,hsz,fun i hi=>repO_mono e.f _ _ _ _ (hr i hi) (fun k b' o n cap hne hk hc=>?_),fun o ho=>(frozen_of_heap (hb b hcb) o).trans (hfz o ho),fun j o id' hj=>?_,hds⟩
  ·
   have hlen:((l.drop (i*ty.sz)).take ty.sz).length=ty.sz:=repO_len0 _ _ _ _ (hr i hi)
   have hk':k<ty.sz:=by rw [←hlen];exact (List.getElem?_eq_some_iff.1 hk).1
   have hkl:l[i*ty.sz+k]?=some (.slice (some ⟨b',o,none⟩) n cap):=by
    rw [List.getElem?_take,if_pos hk',List.getElem?_drop] at hk;exact hk
   have hidx:i*ty.sz+k<xs.length*ty.sz:=by
    have:(i+1)*ty.sz<=xs.length*ty.sz:=Nat.mul_le_mul_right _ hi
    rw [Nat.add_mul] at this;omega
   have hcell:holeCell ty hole≠some (i*ty.sz+k):=by
    intro he
    unfold holeCell at he
    cases hole with
    |none=>cases he
    |some q=>
     obtain ⟨j,o',id'⟩:=q
     simp only [zS] at he
     have ho':=(h3' j o' id' rfl).2.2
     have hji:j.toNat=i:=by
      have h5:(j.toNat*ty.sz+o') / ty.sz=(i*ty.sz+k) / ty.sz:=by rw [he]
      rw [Nat.mul_comm,Nat.mul_add_div (by omega),Nat.div_eq_of_lt ho',Nat.mul_comm i,Nat.mul_add_div (by omega),Nat.div_eq_of_lt hk'] at h5
      omega
     apply hne
     unfold holeOff
     simp only
     rw [if_pos hji]
     have:o'=k:=by rw [hji] at he;omega
     rw [this];simp
   rcases slot_own ty 0 _ _ (hr i hi) k hne hk h0 with h6|⟨b2,h6⟩
   ·omega
   ·cases h6
    exact hb' b' (.inr ⟨b,l,_,n,cap,hcb,hl,hidx,hcell,hkl,hc⟩)
  ·obtain ⟨c',t,n,q1,q2,q3⟩:=hho j o id' hj
   exact ⟨c',t,n,e.b _ _ q1,q2,q3⟩
 |row t xs fr=>
  simp only [BRel] at h ⊢
  obtain ⟨h1,h2,h3,h4⟩:=h
  refine ⟨h1,h2,h3,fun b hcb=>?_⟩
  obtain ⟨⟨l,hl,hsz,hr⟩,h5,h6⟩:=h4 b hcb
  refine ⟨⟨l,(cellsAt_of_heap (hb b hcb)).trans hl,hsz,fun i hi=>rep_mono e.f _ _ _ (hr i hi)⟩,fun hf=>(e.f b (h5 hf)).1,fun hf o ho=>(frozen_of_heap (hb b hcb) o).trans (h6 hf o ho)⟩
 |vars cs=>
  simp only [BRel] at h ⊢
  obtain ⟨h1,b,hcb,⟨l,hl,hr⟩,h6⟩:=h
  exact ⟨h1,b,hcb,⟨l,(cellsAt_of_heap (hb b hcb)).trans hl,hr.mono e⟩,fun o=>(frozen_of_heap (hb b hcb) o).trans (h6 o)⟩
 |mapB k v es=>
  simp only [BRel] at h ⊢
  obtain ⟨h1,b,hcb,l,ck,hl,hck,he⟩:=h
  refine ⟨h1,b,hcb,l,ck,?_,hck,he.1,fun i q1 q2=>?_⟩
  ·unfold mapAt at hl ⊢
   rw [hb b hcb];exact hl
  ·have e0:Ext F w (fun _=>none) F' w' (fun _=>none):=⟨e.f,fun _ _ h=>by cases h⟩
   obtain ⟨a1,a2,a3⟩:=he.2 i q1 q2
   exact ⟨a1.mono e0,a2.mono e0,a3⟩
theorem Good.same {X F w w' β H} (g:Good X F w β H) (e:w'.heap=w.heap) (eo:w'.os=w.os/\w'.output=w.output):Good X F w' β H:=by
 have hb:∀ b:Nat,w'.heap[b]?=w.heap[b]?:=fun b=>by rw [e]
 have ex:Ext F w β F w' β:=⟨fun b h=>⟨h,cellsAt_of_heap (hb b)⟩,fun _ _ h=>h⟩
 refine ⟨fun id c h=>?_,fun id c b h1 h2=>?_,fun id id' c c' b h1 h2 h3 h4=>g.uniq' id id' c c' b h1 h2 (h3.congr fun b _=>cellsAt_of_heap (hb b)) (h4.congr fun b _=>cellsAt_of_heap (hb b)),fun b h=>?_,g.fext,g.fmono,fun b h=>(hb b).trans (g.frame b h),g.gsz,by rw [e];exact g.size,⟨eo.1.trans g.tame.1,eo.2.trans g.tame.2⟩⟩
 ·obtain ⟨blk,h1,h2⟩:=g.hr id c h
  exact ⟨blk,h1,h2.mono ex fun b _=>hb b⟩
 ·rw [e];exact g.own' id c b h1 (h2.congr fun b _=>cellsAt_of_heap (hb b))
 ·rw [e];exact g.fsz b h
theorem Ext.same {F w w' β} (e:w'.heap=w.heap):Ext F w β F w' β:=
 ⟨fun b h=>⟨h,cellsAt_of_heap (by rw [e])⟩,fun _ _ h=>h⟩
theorem RelV.same {F w w' β a v} (e:w'.heap=w.heap) (h:RelV F w β a v):RelV F w' β a v:=h.mono (Ext.same e)
theorem Good.inHeap {X F w β H} (g:Good X F w β H) {id c b} (h:β id=some c) (hd:H id≠some .dead) (hb:c.b=some b):b<w.heap.size:=by
 obtain ⟨blk,h1,h2⟩:=g.hr id c h
 cases blk with
 |dead=>exact absurd h1 hd
 |row t xs fr=>
  obtain ⟨_,_,_,h4⟩:=h2
  obtain ⟨⟨l,hl,_⟩,_⟩:=h4 b hb
  unfold cellsAt at hl
  rcases Nat.lt_or_ge b w.heap.size with h|h
  ·exact h
  ·rw [Array.getElem?_eq_none h] at hl;cases hl
 |vars cs=>
  obtain ⟨_,b',hb',⟨l,hl,_⟩,_⟩:=h2
  rw [hb] at hb';cases hb'
  unfold cellsAt at hl
  rcases Nat.lt_or_ge b w.heap.size with h|h
  ·exact h
  ·rw [Array.getElem?_eq_none h] at hl;cases hl
 |deep e xs hole=>
  obtain ⟨_,_,_,_,_,h4⟩:=h2
  obtain ⟨l,hl,_⟩:=h4 b hb
  unfold cellsAt at hl
  rcases Nat.lt_or_ge b w.heap.size with h|h
  ·exact h
  ·rw [Array.getElem?_eq_none h] at hl;cases hl
 |mapB k v es=>
  obtain ⟨_,b',hb',l,ck,hl,_⟩:=h2
  rw [hb] at hb';cases hb'
  unfold mapAt at hl
  rcases Nat.lt_or_ge b w.heap.size with h|h
  ·exact h
  ·rw [Array.getElem?_eq_none h] at hl;cases hl
theorem Good.touchHeap {X F w β H} (g:Good X F w β H) {id c b} (h:β id=some c) (hd:H id≠some .dead) (hb:Touch w c (H id) b):b<w.heap.size:=by
 rcases hb with hb|hb
 ·exact g.inHeap h hd hb
 ·exact (g.own' id c b h ⟨hb.ownB,.inr hb⟩).2.2
theorem heap_push_lt {w:World} {o:Obj} {b:Nat} (h:b<w.heap.size):(w.heap.push o)[b]?=w.heap[b]?:=by
 rw [Array.getElem?_push];simp;omega
theorem heap_push_eq {w:World} {o:Obj}:(w.heap.push o)[w.heap.size]?=some o:=by simp
theorem Good.new {X F w β H} (g:Good X F w β H) {id:Nat} (hid:β id=none) {o:Obj} {c:Conc} {blk:Blk} (hc:c.b=some w.heap.size)
  (hown:ownB (some blk)=true) (hin:∀ b,¬ Inner { w with heap:=w.heap.push o } c (some blk) b)
  (hB:BRel F { w with heap:=w.heap.push o } (upd β id c) c blk) :
  Good X F { w with heap:=w.heap.push o } (upd β id c) (H.set id blk)/\Ext F w β F { w with heap:=w.heap.push o } (upd β id c):=by
 have hlt:∀ b,b<w.heap.size->(World.heap { w with heap:=w.heap.push o })[b]?=w.heap[b]?:=fun b h=>heap_push_lt h
 have ex:Ext F w β F { w with heap:=w.heap.push o } (upd β id c):=
  ⟨fun b h=>⟨h,cellsAt_of_heap (hlt b (g.fsz b h))⟩,fun j c' h=>by rw [upd_ne (fun e=>by rw [e,hid] at h;cases h)];exact h⟩
 have hne:∀ j c',β j=some c'->j≠id:=fun j c' h e=>by rw [e,hid] at h;cases h
 have ow:∀ {j c' b},j≠id->β j=some c'->Owned { w with heap:=w.heap.push o } c' ((H.set id blk) j) b->Owned w c' (H j) b:=fun {j c' b} e h1 h2=>by
  rw [zH e] at h2
  refine h2.congr fun b0 hb0=>?_
  have hd:H j≠some .dead:=fun hd=>by have:=h2.1;rw [hd] at this;cases this
  exact cellsAt_of_heap (hlt b0 (g.inHeap h1 hd hb0))
 have own0:∀ {b},Owned { w with heap:=w.heap.push o } c ((H.set id blk) id) b->b=w.heap.size:=fun {b} h=>by
  rw [zJ] at h
  rcases h.2 with h|h
  ·rw [hc] at h;cases h;rfl
  ·exact (hin b h).elim
 refine ⟨⟨fun j c' h=>?_,fun j c' b h1 h2=>?_,fun j j' c1 c2 b h1 h2 h3 h4=>?_,fun b h=>?_,g.fext,g.fmono,fun b h=>?_,g.gsz,?_,g.tame⟩,ex⟩
 ·by_cases e:j=id
  ·subst e;rw [upd_self] at h;cases h
   exact ⟨blk,zJ,hB⟩
  ·rw [upd_ne e] at h
   obtain ⟨blk',h1,h2⟩:=g.hr j c' h
   refine ⟨blk',by rw [zH e];exact h1,?_⟩
   by_cases hd:blk'=.dead
   ·subst hd;trivial
   ·exact h2.mono ex fun b hb=>hlt b (g.touchHeap h (by rw [h1];intro e;cases e;exact hd rfl) (by rw [h1];exact hb))
 ·by_cases e:j=id
  ·subst e;rw [upd_self] at h1;cases h1
   have:=own0 h2
   subst this
   refine ⟨fun h=>?_,fun h=>?_,by simp⟩
   ·have:=g.fsz _ h;omega
   ·have:=g.gsz _ h;have:=g.size;omega
  ·rw [upd_ne e] at h1
   obtain ⟨a1,a2,a3⟩:=g.own' j c' b h1 (ow e h1 h2)
   exact ⟨a1,a2,by simp;omega⟩
 ·by_cases e:j=id
  ·by_cases e':j'=id
   ·rw [e,e']
   ·subst e;rw [upd_self] at h1;cases h1
    rw [upd_ne e'] at h2
    have q1:=own0 h3
    have q2:=(g.own' j' c2 _ h2 (ow e' h2 h4)).2.2;omega
  ·rw [upd_ne e] at h1
   by_cases e':j'=id
   ·subst e';rw [upd_self] at h2;cases h2
    have q1:=own0 h4
    have q2:=(g.own' j c1 _ h1 (ow e h1 h3)).2.2;omega
   ·rw [upd_ne e'] at h2
    exact g.uniq' j j' c1 c2 b h1 h2 (ow e h1 h3) (ow e' h2 h4)
 ·have:=g.fsz b h;simp;omega
 ·have:=g.gsz b h;have:=g.size
  exact (hlt b (by omega)).trans (g.frame b h)
 ·have:=g.size;simp;omega
theorem Good.write {X F w β H} (g:Good X F w β H) {id:Nat} {c:Conc} {b:Nat} (hid:β id=some c) (hown:ownB (H id)=true) (hb:c.b=some b)
  {w':World} (hw:∀ b',b'≠b->w'.heap[b']?=w.heap[b']?) (hsz:w'.heap.size=w.heap.size) (eo:w'.os=w.os/\w'.output=w.output) {blk:Blk}
  (hB:BRel F w' β c blk) (hown':blk≠.dead->ownB (some blk)=true) (hin:∀ b',Inner w' c (some blk) b'->Inner w c (H id) b') :
  Good X F w' β (H.set id blk)/\Ext F w β F w' β:=by
 obtain ⟨o1,o2,o3⟩:=g.own id c b hid hown hb
 have ex:Ext F w β F w' β:=⟨fun b' h=>⟨h,cellsAt_of_heap (hw b' fun e=>o1 (e▸h))⟩,fun _ _ h=>h⟩
 have ow:∀ {j c' b'},β j=some c'->Owned w' c' ((H.set id blk) j) b'->Owned w c' (H j) b':=fun {j c' b'} hj h=>by
  by_cases e:j=id
  ·subst e
   rw [hid] at hj;cases hj
   rw [zJ] at h
   exact ⟨hown,h.2.imp id (hin b')⟩
  ·rw [zH e] at h
   have hd:H j≠some .dead:=fun hd=>by have:=h.1;rw [hd] at this;cases this
   exact h.congr fun b0 hb0=>cellsAt_of_heap (hw b0 fun eb=>g.apart hid ⟨hown,.inl hb⟩ hj e hd (.inl (eb▸hb0)))
 refine ⟨⟨fun j c' h=>?_,fun j c' b' h1 h2=>?_,fun j j' c1 c2 b' h1 h2 h3 h4=>g.uniq' j j' c1 c2 b' h1 h2 (ow h1 h3) (ow h2 h4),fun b' h=>hsz▸g.fsz b' h,g.fext,g.fmono,fun b' h=>?_,g.gsz,hsz▸g.size,⟨eo.1.trans g.tame.1,eo.2.trans g.tame.2⟩⟩,ex⟩
 ·by_cases e:j=id
  ·subst e
   rw [hid] at h;cases h
   exact ⟨blk,zJ,hB⟩
  ·obtain ⟨blk',h1,h2⟩:=g.hr j c' h
   refine ⟨blk',by rw [zH e];exact h1,?_⟩
   by_cases hd:blk'=.dead
   ·subst hd;trivial
   ·exact h2.mono ex fun b' hb'=>hw b' fun eb=>g.apart hid ⟨hown,.inl hb⟩ h e (by rw [h1];intro e;cases e;exact hd rfl) (by rw [h1];exact eb▸hb')
 ·obtain ⟨a1,a2,a3⟩:=g.own' j c' b' h1 (ow h1 h2)
  exact ⟨a1,a2,hsz▸a3⟩
 ·exact (hw b' fun e=>o2 (e▸h)).trans (g.frame b' h)
theorem Good.give {X F w β H} (g:Good X F w β H) {id:Nat} {c:Conc} (hc:β id=some c) {blk:Blk} (hn:ownB (some blk)=false)
  (hB:Ext F w β (fun x=>F x\/Owned w c (H id) x) w β->BRel (fun x=>F x\/Owned w c (H id) x) w β c blk) :
  Good X (fun x=>F x\/Owned w c (H id) x) w β (H.set id blk)/\Ext F w β (fun x=>F x\/Owned w c (H id) x) w β:=by
 have ex:Ext F w β (fun x=>F x\/Owned w c (H id) x) w β:=⟨fun b' h=>⟨.inl h,rfl⟩,fun _ _ h=>h⟩
 have ow:∀ {j c' b},Owned w c' ((H.set id blk) j) b->j≠id/\Owned w c' (H j) b:=fun {j c' b} h=>by
  by_cases e:j=id
  ·subst e;rw [zJ] at h;have:=h.1;rw [hn] at this;cases this
  ·rw [zH e] at h;exact ⟨e,h⟩
 refine ⟨⟨fun j c' h'=>?_,fun j c' b' h1 h2=>?_,fun j j' c1 c2 b' h1 h2 h3 h4=>g.uniq' j j' c1 c2 b' h1 h2 (ow h3).2 (ow h4).2,?_,?_,fun b' h=>.inl (g.fmono b' h),g.frame,g.gsz,g.size,g.tame⟩,ex⟩
 ·by_cases e:j=id
  ·subst e
   rw [hc] at h';cases h'
   exact ⟨_,zJ,hB ex⟩
  ·obtain ⟨blk',h1,h2⟩:=g.hr j c' h'
   exact ⟨blk',by rw [zH e];exact h1,h2.mono ex fun _ _=>rfl⟩
 ·obtain ⟨e,h2'⟩:=ow h2
  obtain ⟨a1,a2,a3⟩:=g.own' j c' b' h1 h2'
  exact ⟨fun hh=>hh.elim a1 fun eb=>e (g.uniq' j id c' c b' h1 hc h2' eb),a2,a3⟩
 ·rintro b' (h|h)
  ·exact g.fsz b' h
  ·exact (g.own' id c b' hc h).2.2
 ·rintro b' (h|h)
  ·exact g.fext b' h
  ·exact .inr (g.own' id c b' hc h).2.1
theorem Good.freeze {X F w β H} (g:Good X F w β H) {id:Nat} {t xs} {fr:Bool} (h:H id=some (.row t xs fr)) :
  ∃ F',Good X F' w β (H.set id (.row t xs true))/\Ext F w β F' w β/\(∀ c b,β id=some c->c.b=some b->F' b):=by
 cases hc:β id with
 |none=>
  refine ⟨F,⟨fun j c' h'=>?_,fun j c' b' h1 h2=>?_,fun j j' c1 c2 b' h1 h2 h3 h4=>?_,g.fsz,g.fext,g.fmono,g.frame,g.gsz,g.size,g.tame⟩,.refl,fun c b e=>by cases e⟩
  ·have e:j≠id:=fun e=>by rw [e,hc] at h';cases h'
   rw [zH e];exact g.hr j c' h'
  ·have e:j≠id:=fun e=>by rw [e,hc] at h1;cases h1
   rw [zH e] at h2;exact g.own' j c' b' h1 h2
  ·have e:j≠id:=fun e=>by rw [e,hc] at h1;cases h1
   have e':j'≠id:=fun e=>by rw [e,hc] at h2;cases h2
   rw [zH e] at h3;rw [zH e'] at h4;exact g.uniq' j j' c1 c2 b' h1 h2 h3 h4
 |some c=>
  obtain ⟨blk,h1,h2⟩:=g.hr id c hc
  rw [h] at h1;cases h1
  obtain ⟨g',ex⟩:=g.give hc (blk:=.row t xs true) rfl (fun ex=>by
   obtain ⟨h1,h2,h3,h4⟩:=h2.mono ex (fun _ _=>rfl)
   refine ⟨h1,h2,h3,fun b hb=>?_⟩
   obtain ⟨h5,h6,h7⟩:=h4 b hb
   refine ⟨h5,fun _=>?_,fun e=>by cases e⟩
   cases fr with
   |true=>exact h6 rfl
   |false=>exact .inr ⟨by rw [h];rfl,.inl hb⟩)
  refine ⟨_,g',ex,fun c' b e hb=>?_⟩
  cases e
  cases fr with
  |true=>exact .inl ((h2.2.2.2 b hb).2.1 rfl)
  |false=>exact .inr ⟨by rw [h];rfl,.inl hb⟩
theorem repO_rep {F F':Nat->Prop} {w:World} (hF:∀ b,F b->F' b):∀ (t:Ty) (off:Nat) (x:t.D) (vs:List Value),repO F w none off t x vs->deepK t=true->(∀ (k:Nat) b n c,vs[k]?=some (.slice (some ⟨b,0,none⟩) n c)->0<c->F' b)->rep F' w t x vs
 |.sl e,off,xs,vs,h,hd,hi=>by
  simp only [repO] at h
  obtain ⟨A,n,c,rfl,h⟩:=h
  obtain ⟨h1,h2,h3⟩:=h (by simp)
  simp only [rep]
  refine ⟨A,c,by rw [h1],by omega,?_⟩
  by_cases h0:xs.length=0
  ·exact .inl h0
  ·rcases h3 with h3|⟨b,l,hA,hl,hsz,hr,_⟩
   ·omega
   ·refine .inr ⟨b,0,hA,hi 0 b n c (by simp [hA]) (by omega),fun i hlt=>?_⟩
    have hc:(i+1)*e.sz<=c*e.sz:=Nat.mul_le_mul_right _ (by omega)
    rw [Nat.add_mul] at hc
    exact ⟨_,⟨l,hl,by omega,rfl⟩,by rw [Nat.zero_add];exact rep_mono (fun b h=>⟨hF b h,rfl⟩) _ _ _ (hr i hlt)⟩
 |.pr a b,off,x,vs,h,hd,hi=>by
  simp only [repO] at h
  simp only [deepK,Bool.and_eq_true] at hd
  obtain ⟨us,ws,rfl,h1,h2⟩:=h
  simp only [rep]
  exact ⟨us,ws,rfl,repO_rep hF a _ _ _ h1 hd.1 (fun k b n c hk=>hi k b n c (by rw [List.getElem?_append_left (List.getElem?_eq_some_iff.1 hk).1];exact hk)),
   repO_rep hF b _ _ _ h2 hd.2 (fun k b n c hk=>hi (us.length+k) b n c (by rw [List.getElem?_append_right (by omega),Nat.add_sub_cancel_left];exact hk))⟩
 |.int k,_,x,vs,h,_,_=>by simp only [repO] at h;exact rep_mono (fun b h=>⟨hF b h,rfl⟩) _ _ _ h
 |.bool,_,x,vs,h,_,_=>by simp only [repO] at h;exact rep_mono (fun b h=>⟨hF b h,rfl⟩) _ _ _ h
 |.str,_,x,vs,h,_,_=>by simp only [repO] at h;exact rep_mono (fun b h=>⟨hF b h,rfl⟩) _ _ _ h
 |.un,_,x,vs,h,_,_=>by simp only [repO] at h;exact rep_mono (fun b h=>⟨hF b h,rfl⟩) _ _ _ h
 |.ar n e,_,x,vs,h,_,_=>by simp only [repO] at h;exact rep_mono (fun b h=>⟨hF b h,rfl⟩) _ _ _ h
theorem seg_at {l:List Value} {a n k:Nat} {v:Value} (h:((l.drop a).take n)[k]?=some v):k<n/\l[a+k]?=some v:=by
 rw [List.getElem?_take] at h
 split at h
 ·rename_i hk;rw [List.getElem?_drop] at h;exact ⟨hk,h⟩
 ·cases h
theorem cell_lt {i n k sz:Nat} (hi:i<n) (hk:k<sz):i*sz+k<n*sz:=by
 have:(i+1)*sz<=n*sz:=Nat.mul_le_mul_right _ hi
 rw [Nat.add_mul] at this;omega
theorem Good.freezeD {X F w β H} (g:Good X F w β H) {id:Nat} {e:Ty} {xs:List e.D} (h:H id=some (.deep e xs none)) :
  ∃ F',Good X F' w β (H.set id (.row e xs true))/\Ext F w β F' w β/\(∀ c b,β id=some c->c.b=some b->F' b):=by
 cases hc:β id with
 |none=>
  refine ⟨F,⟨fun j c' h'=>?_,fun j c' b' h1 h2=>?_,fun j j' c1 c2 b' h1 h2 h3 h4=>?_,g.fsz,g.fext,g.fmono,g.frame,g.gsz,g.size,g.tame⟩,.refl,fun c b e=>by cases e⟩
  ·have e:j≠id:=fun e=>by rw [e,hc] at h';cases h'
   rw [zH e];exact g.hr j c' h'
  ·have e:j≠id:=fun e=>by rw [e,hc] at h1;cases h1
   rw [zH e] at h2;exact g.own' j c' b' h1 h2
  ·have e:j≠id:=fun e=>by rw [e,hc] at h1;cases h1
   have e':j'≠id:=fun e=>by rw [e,hc] at h2;cases h2
   rw [zH e] at h3;rw [zH e'] at h4;exact g.uniq' j j' c1 c2 b' h1 h2 h3 h4
 |some c=>
  obtain ⟨blk,h1,h2⟩:=g.hr id c hc
  rw [h] at h1;cases h1
  obtain ⟨g',ex⟩:=g.give hc (blk:=.row e xs true) rfl (fun ex=>by
   obtain ⟨h0,h1,h2,h3,_,h4⟩:=h2
   refine ⟨h1,h2,fun hn=>⟨(h3 hn).1,(h3 hn).2.1⟩,fun b hb=>?_⟩
   obtain ⟨l,hl,hsz,hr,hfz,_,hds⟩:=h4 b hb
   refine ⟨⟨l,hl,hsz,fun i hi=>repO_rep (fun b hb=>.inl hb) e 0 _ _ (hr i hi) h0 fun k b' n cap hk hcap=>?_⟩,fun _=>.inr ⟨by rw [h];rfl,.inl hb⟩,fun e=>by cases e⟩
   obtain ⟨q1,q2⟩:=seg_at hk
   exact .inr ⟨by rw [h];rfl,.inr (by rw [h];exact ⟨b,l,_,n,cap,hb,hl,cell_lt hi q1,by simp [holeCell],q2,hcap⟩)⟩)
  refine ⟨_,g',ex,fun c' b e hb=>?_⟩
  cases e
  exact .inr ⟨by rw [h];rfl,.inl hb⟩
end
section
theorem toI_wrI (k:IntKind) (n:Int):toI k (wrI k n)=k.wrap n:=by
 cases k<;>simp only [toI,wrI]
 ·rw [UInt8.toNat_ofNat']
  simp [IntKind.wrap,IntKind.bits,IntKind.signed];omega
theorem toI_ofI (k:IntKind) (n:Int) (h:k=.u8->0<=n/\n<256):toI k (ofI k n)=n:=by
 cases k<;>simp only [toI,ofI]
 have:=h rfl
 rw [UInt8.toNat_ofNat']
 omega
theorem toI_u8 (x:(Ty.int .u8).D):0<=toI .u8 x/\toI .u8 x<256:=by
 have:=UInt8.toNat_lt x
 simp only [toI];constructor<;>omega
section
variable {F:Nat->Prop} {w:World} {β:Nat->Option Conc}
theorem RelV.int {k:IntKind} {x:(Ty.int k).D} {n:Int} (h:toI k x=n):RelV F w β (.dat (.int k) x) (.int k n):=
 .one _ _ rfl (.dat _ _ _ (by simp only [rep];rw [h]))
theorem RelV.bool (b:Bool):RelV F w β (.dat .bool b) (.bool b):=.one _ _ rfl (.dat _ _ _ (by simp only [rep]))
theorem RelV.str (s:List UInt8):RelV F w β (.dat .str s) (.string ⟨s.toArray⟩):=.one _ _ rfl (.dat _ _ _ (by simp only [rep]))
theorem RelV.int_inv {k:IntKind} {x:(Ty.int k).D} {v:Value} (h:RelV F w β (.dat (.int k) x) v):v=.int k (toI k x):=by
 cases h with
 |one _ _ _ h=>cases h with|dat _ _ _ h=>simp only [rep] at h;injection h
 |many _ _ h=>simp [isMany] at h
theorem RelV.bool_inv {x:Bool} {v:Value} (h:RelV F w β (.dat .bool x) v):v=.bool x:=by
 cases h with
 |one _ _ _ h=>cases h with|dat _ _ _ h=>simp only [rep] at h;injection h
 |many _ _ h=>simp [isMany] at h
theorem RelV.str_inv {x:List UInt8} {v:Value} (h:RelV F w β (.dat .str x) v):v=.string ⟨x.toArray⟩:=by
 cases h with
 |one _ _ _ h=>cases h with|dat _ _ _ h=>simp only [rep] at h;injection h
 |many _ _ h=>simp [isMany] at h
theorem RelV.nilP_inv {v:Value} (h:RelV F w β .nilP v):v=.pointer none:=by
 cases h with
 |one _ _ _ h=>cases h;rfl
 |many _ _ h=>simp [isMany] at h
theorem RelV.nilS_inv {v:Value} (h:RelV F w β .nilS v):v=.slice none 0 0:=by
 cases h with
 |one _ _ _ h=>cases h;rfl
 |many _ _ h=>simp [isMany] at h
theorem RelV.ptr_inv {id p} {v:Value} (h:RelV F w β (.ptr id p) v):∃ c b o,v=.pointer (some ⟨b,o,none⟩)/\β id=some c/\c.b=some b/\placeOf c.sh p=some o:=by
 cases h with
 |one _ _ _ h=>cases h with|ptr _ _ c b o h1 h2 h3=>exact ⟨c,b,o,rfl,h1,h2,h3⟩
 |many _ _ h=>simp [isMany] at h
theorem RelV.fptr_inv {t x} {v:Value} (h:RelV F w β (.fptr t x) v):∃ b o us,v=.pointer (some ⟨b,o,none⟩)/\F b/\At w b o t.sz us/\rep F w t x us:=by
 cases h with
 |one _ _ _ h=>cases h with|fptr _ _ b o us h1 h2 h3=>exact ⟨b,o,us,rfl,h1,h2,h3⟩
 |many _ _ h=>simp [isMany] at h
theorem RelV.mp_inv {b:Bool} {t x} {v:Value} (h:RelV F w β (.mp b t x) v):(b=false/\v=.pointer none)\/(b=true/\RelV F w β (.fptr t x) v):=by
 cases h with
 |one _ _ _ h=>cases h with
  |mpn _ _=>exact .inl ⟨rfl,rfl⟩
  |mps _ _ b o us k1 k2 k3=>exact .inr ⟨rfl,.one _ _ rfl (.fptr _ _ b o us k1 k2 k3)⟩
 |many _ _ h=>simp [isMany] at h
theorem RelV.nz_inv {b t xs} {v:Value} (h:RelV F w β (.nz b t xs) v):∃ A n c,v=.slice A n c/\rep F w (.sl t) xs [.slice A n c]/\b=A.isNone:=by
 cases h with
 |one _ _ _ h=>cases h with|nz _ _ _ A n c h1 h2=>exact ⟨A,n,c,rfl,h1,h2⟩
 |many _ _ h=>simp [isMany] at h
theorem RelV.full_inv {id} {v:Value} (h:RelV F w β (.full id) v):∃ c t len,v=.slice c.adr len c.cap/\β id=some c/\c.sh=.row t len/\len<=c.cap:=by
 cases h with
 |one _ _ _ h=>cases h with|full _ c t len h1 h2 h3=>exact ⟨c,t,len,rfl,h1,h2,h3⟩
 |many _ _ h=>simp [isMany] at h
theorem RelV.sub_inv {id off lo hi} {v:Value} (h:RelV F w β (.sub id off lo hi) v):∃ c n t A cap,v=.slice A (hi - lo).toNat cap/\β id=some c/\arrSh c.sh off=some (n,t) /\
  0<=lo/\lo<=hi/\hi<=n/\(hi - lo).toNat<=cap/\(lo=hi\/∃ b,c.b=some b/\A=some ⟨b,off+lo.toNat*t.sz,none⟩):=by
 cases h with
 |one _ _ _ h=>cases h with|sub _ _ _ _ c n t A cap h1 h3 h4 h5 h6 h7 h8=>exact ⟨c,n,t,A,cap,rfl,h1,h3,h4,h5,h6,h7,h8⟩
 |many _ _ h=>simp [isMany] at h
theorem RelV.fn_inv {f caps} {v:Value} (h:RelV F w β (.fn f caps) v):∃ vs,v=.func (.func f) #[] vs.toArray/\RelVs F w β caps vs:=by
 cases h with
 |one _ _ _ h=>cases h with|fn _ _ vs h=>exact ⟨vs,rfl,h⟩
 |many _ _ h=>simp [isMany] at h
theorem RelV.agg_inv {xs} {v:Value} (h:RelV F w β (.agg xs) v):∃ vs,v=.agg vs.toArray/\RelCs F w β xs vs:=by
 cases h with
 |one _ _ h=>simp [isMany] at h
 |many _ cs _ h=>cases h with|agg _ _ h=>exact ⟨cs,rfl,h⟩
theorem RelV.tup_inv {xs} {v:Value} (h:RelV F w β (.tup xs) v):∃ vs,v=.tuple vs.toArray/\RelVs F w β xs vs:=by
 cases h with
 |one _ _ _ h=>cases h
 |many _ _ h=>simp [isMany] at h
 |tup _ vs h=>exact ⟨vs,rfl,h⟩
theorem RelV.dat_inv {t x} {v:Value} (h:RelV F w β (.dat t x) v):(isMany (.dat t x)=false/\rep F w t x [v])\/(isMany (.dat t x)=true/\∃ cs,v=.agg cs.toArray/\rep F w t x cs):=by
 cases h with
 |one _ _ h1 h=>cases h with|dat _ _ _ h=>exact .inl ⟨h1,h⟩
 |many _ cs h1 h=>cases h with|dat _ _ _ h=>exact .inr ⟨h1,cs,rfl,h⟩
theorem RelV.ofDat {t x} {cs:List Value} {v:Value} (h:rep F w t x cs) (h1:isMany (.dat t x)=true->v=.agg cs.toArray) (h2:isMany (.dat t x)=false->cs=[v]):RelV F w β (.dat t x) v:=by
 cases e:isMany (.dat t x)
 ·have:=h2 e;subst this;exact .one _ _ e (.dat _ _ _ h)
 ·rw [h1 e];exact .many _ _ e (.dat _ _ _ h)
end
theorem fdiv_pow (x:Int) (n:Nat):x.fdiv (2 ^ n)=x / ((2 ^ n:Nat):Int):=by
 rw [Int.fdiv_eq_ediv_of_nonneg _ (Int.pow_nonneg (by decide))];simp
theorem intBits_run (P:Program) (w:World) (op:BinOp) (k:IntKind) (x y:Int) (h:op=.and\/op=.or\/op=.xor\/op=.andNot) :
  (Op.intBits op k x y).run P w=.ok (.int k (k.wrap (bitsI op k x y))) w:=by
 rcases h with rfl|rfl|rfl|rfl<;>simp [Op.intBits,bitsI,pure]
theorem tmod_u8 (x y:Int) (h:0<=x/\x<256):0<=x.tmod y/\x.tmod y<256:=by
 have h1:=Int.tmod_nonneg y h.1
 have h2:(x.tmod y).natAbs<=x.natAbs:=by rw [Int.natAbs_tmod];exact Nat.mod_le _ _
 omega
end
section
section
variable {P:Program} {F:Nat->Prop} {w:World} {β:Nat->Option Conc}
theorem sim_int {T:TypeId} {op:BinOp} {k k':IntKind} {x y:Int} {c:AV} (h:exInt op k x k' y=some c) (hx:k=.u8->0<=x/\x<256) :
  ∃ r,(binOp op T (.int k x) (.int k' y)).run P w=.ok r w/\RelV F w β c r:=by
 cases op
 case shl=>
  simp only [exInt] at h
  split at h<;>cases h
  rename_i h0
  refine ⟨.int k (k.wrap (x*2 ^ min y.toNat k.bits)),?_,RelV.int ?_⟩
  ·simp [binOp,Op.shift,Int.not_lt.mpr h0,pure,Sem.run]
  ·rw [toI_wrI];simp
 case shr=>
  simp only [exInt] at h
  split at h<;>cases h
  rename_i h0
  refine ⟨.int k (x.fdiv (2 ^ min y.toNat k.bits)),?_,RelV.int ?_⟩
  ·simp [binOp,Op.shift,Int.not_lt.mpr h0,pure,Sem.run]
  ·rw [fdiv_pow,toI_ofI]
   intro hk
   have:=hx hk
   have hp:0<((2 ^ min y.toNat k.bits:Nat):Int):=by exact_mod_cast Nat.two_pow_pos _
   refine ⟨Int.ediv_nonneg this.1 (by omega),?_⟩
   have:=Int.ediv_le_self ((2 ^ min y.toNat k.bits:Nat):Int) this.1
   omega
 all_goals
  simp only [exInt] at h
  split at h
  rotate_left
  ·cases h
  rename_i hk
  subst hk
 case add=>cases h;exact ⟨_,by simp [binOp,Op.intArith,pure,Sem.run],RelV.int (toI_wrI _ _)⟩
 case sub=>cases h;exact ⟨_,by simp [binOp,Op.intArith,pure,Sem.run],RelV.int (toI_wrI _ _)⟩
 case mul=>cases h;exact ⟨_,by simp [binOp,Op.intArith,pure,Sem.run],RelV.int (toI_wrI _ _)⟩
 case quo=>
  split at h<;>cases h
  rename_i h0
  exact ⟨_,by simp [binOp,Op.intDiv,h0,pure,Sem.run],RelV.int (toI_wrI _ _)⟩
 case rem=>
  split at h<;>cases h
  rename_i h0
  exact ⟨_,by simp [binOp,Op.intDiv,h0,pure,Sem.run],RelV.int (toI_ofI _ _ fun hk=>tmod_u8 _ _ (hx hk))⟩
 case and=>cases h;exact ⟨_,by simp only [binOp,ne_eq,not_true_eq_false,if_false];exact intBits_run P w .and k x y (by simp),RelV.int (toI_wrI _ _)⟩
 case or=>cases h;exact ⟨_,by simp only [binOp,ne_eq,not_true_eq_false,if_false];exact intBits_run P w .or k x y (by simp),RelV.int (toI_wrI _ _)⟩
 case xor=>cases h;exact ⟨_,by simp only [binOp,ne_eq,not_true_eq_false,if_false];exact intBits_run P w .xor k x y (by simp),RelV.int (toI_wrI _ _)⟩
 case andNot=>cases h;exact ⟨_,by simp only [binOp,ne_eq,not_true_eq_false,if_false];exact intBits_run P w .andNot k x y (by simp),RelV.int (toI_wrI _ _)⟩
 all_goals (cases h;exact ⟨_,by simp [binOp,Op.intCmp,pure,Sem.run],RelV.bool _⟩)
theorem sim_str {T:TypeId} {op:BinOp} {x y:List UInt8} {c:AV} (h:exStr op x y=some c) :
  ∃ r,(binOp op T (.string ⟨x.toArray⟩) (.string ⟨y.toArray⟩)).run P w=.ok r w/\RelV F w β c r:=by
 have htl:∀ l:List UInt8,(ByteArray.mk l.toArray).toList=l:=fun l=>ByteArray.toList_mk l
 cases op<;>simp only [exStr] at h
 case add=>
  split at h<;>cases h
  rename_i h0
  refine ⟨.string ⟨(x++y).toArray⟩,?_,RelV.str _⟩
  have hs:∀ l:List UInt8,(ByteArray.mk l.toArray).size=l.length:=fun l=>by simp [ByteArray.size]
  have hle:¬ ((((ByteArray.mk x.toArray).size+(ByteArray.mk y.toArray).size:Nat):Int)>IntKind.i64.max):=by
   rw [hs,hs];simp [IntKind.max,IntKind.signed,IntKind.bits];omega
  simp only [binOp,Op.stringOp]
  rw [if_neg hle]
  simp only [pure,Sem.run]
  congr 2
 case eql=>cases h;exact ⟨_,by simp only [binOp,Op.stringOp,htl,pure,Sem.run],RelV.bool _⟩
 case neq=>cases h;exact ⟨_,by simp only [binOp,Op.stringOp,htl,pure,Sem.run],RelV.bool _⟩
 all_goals cases h
theorem guard_int (op:BinOp) (T:TypeId) (x y:Operand) (k k':IntKind) (a b:Int):(eqGuard op T x y (.int k a) (.int k' b)).run P w=.ok () w:=by
 cases op<;>simp [eqGuard,pure,Sem.run]
theorem guard_str (op:BinOp) (T:TypeId) (x y:Operand) (a b:ByteArray):(eqGuard op T x y (.string a) (.string b)).run P w=.ok () w:=by
 cases op<;>simp [eqGuard,pure,Sem.run]
theorem guard_bool (op:BinOp) (T:TypeId) (x y:Operand) (a b:Bool):(eqGuard op T x y (.bool a) (.bool b)).run P w=.ok () w:=by
 cases op<;>simp [eqGuard,pure,Sem.run]
theorem guard_ptr (op:BinOp) (T:TypeId) (x y:Operand) (a b:Option Addr):(eqGuard op T x y (.pointer a) (.pointer b)).run P w=.ok () w:=by
 cases op<;>simp [eqGuard,pure,Sem.run]
theorem guard_slice (op:BinOp) (T:TypeId) (x y:Operand) (A B:Option Addr) (n c n' c':Nat):(eqGuard op T x y (.slice A n c) (.slice B n' c')).run P w=.ok () w:=by
 cases op<;>simp [eqGuard,pure,Sem.run]
theorem eq_slice_nil (d:Nat) {T e:TypeId} (h:P.underlying T=some (.slice e)) (A:Option Addr) (n c:Nat):(Op.equalIn (d+1) T (.slice A n c) (.slice none 0 0)).run P w=.ok A.isNone w:=by
 cases A<;>simp [Op.equalIn,run_underlying h,pure,Sem.run]
theorem eq_bool (d:Nat) {T:TypeId} (h:P.underlying T=some .bool) (a b:Bool):(Op.equalIn (d+1) T (.bool a) (.bool b)).run P w=.ok (a == b) w:=by
 simp [Op.equalIn,run_underlying h,pure,Sem.run]
theorem eq_ptr_nil (d:Nat) {T e:TypeId} (h:P.underlying T=some (.pointer e)) (a:Addr):(Op.equalIn (d+1) T (.pointer (some a)) (.pointer none)).run P w=.ok false w:=by
 simp [Op.equalIn,run_underlying h,pure,Sem.run]
theorem eq_nil_nil (d:Nat) {T e:TypeId} (h:P.underlying T=some (.pointer e)):(Op.equalIn (d+1) T (.pointer none) (.pointer none)).run P w=.ok true w:=by
 simp [Op.equalIn,run_underlying h,pure,Sem.run]
theorem equal_def (T:TypeId) (x y:Value):Op.equal T x y=Op.equalIn (9999+1) T x y:=rfl
theorem plainTy_key {T:TypeId} {a:Ty} (h:plainTy P T a=true):P.plainKey T=true:=by
 unfold plainTy at h
 unfold Program.plainKey
 split at h
 ·split at h
  ·rename_i hu;rw [hu]
  ·cases h
 ·split at h
  ·rename_i hu;rw [hu]
  ·cases h
 ·split at h
  ·rename_i hu;rw [hu]
  ·cases h
 ·cases h
theorem eqB_run {T:TypeId} {a:Ty} (h:plainTy P T a=true) {x y:a.D} {u v:List Value} (hx:rep F w a x u) (hy:rep F w a y v) (d:Nat):∃ p q,u=[p]/\v=[q]/\(Op.equalIn (d+1) T p q).run P w=.ok (eqB a x y) w:=by
 unfold plainTy at h
 split at h
 ·split at h
  ·rename_i k k' hu
   simp only [rep] at hx hy
   exact ⟨_,_,hx,hy,run_equalIn_int w d T _ _ _ _ hu⟩
  ·cases h
 ·split at h
  ·rename_i hu
   simp only [rep] at hx hy
   exact ⟨_,_,hx,hy,run_equalIn_bool w d T _ _ hu⟩
  ·cases h
 ·split at h
  ·rename_i hu
   simp only [rep] at hx hy
   refine ⟨_,_,hx,hy,?_⟩
   rw [run_equalIn_string w d T _ _ hu,ByteArray.toList_eq,ByteArray.toList_eq]
   rfl
  ·cases h
 ·cases h
theorem eqFs_run (d:Nat):∀ (fs:List Field) (off:Nat) (t:Ty) (x y:t.D) (r:Bool),eqFs P fs off t x y=some r->∀ (cs ds pre pre':List Value),pre.length=off->pre'.length=off->rep F w t x cs->rep F w t y ds ->
  (Op.eqFields (d+1) (pre++cs).toArray (pre'++ds).toArray fs).run P w=.ok r w
 | [],_,.un,_,_,r,h,cs,ds,pre,pre',_,_,_,_=>by cases h;rfl
 |f::fs,off,.pr a b,x,y,r,h,cs,ds,pre,pre',h1,h2,hx,hy=>by
  simp only [eqFs] at h
  split at h
  ·rename_i hc
   simp only [Bool.and_eq_true,bne_iff_ne,ne_eq,beq_iff_eq] at hc
   obtain ⟨r',hr,rfl⟩:=zM.1 h
   simp only [rep] at hx hy
   obtain ⟨us,ws,rfl,hx1,hx2⟩:=hx
   obtain ⟨us',ws',rfl,hy1,hy2⟩:=hy
   obtain ⟨p,q,rfl,rfl,he⟩:=eqB_run hc.2.2 hx1 hy1 d
   have hk:=plainTy_key hc.2.2
   have ih:=eqFs_run d fs (off+1) b x.2 y.2 r' hr ws ws' (pre++[p]) (pre'++[q]) (by simp [h1]) (by simp [h2]) hx2 hy2
   simp only [List.append_assoc,List.singleton_append] at ih
   simp only [List.singleton_append]
   have e1:(pre++p::ws).toArray[f.offset]?=some p:=by simp [hc.2.1,←h1]
   have e2:(pre'++q::ws').toArray[f.offset]?=some q:=by simp [hc.2.1,←h2]
   simp only [Op.eqFields]
   rw [if_pos hc.1]
   simp only [Sem.run_bind,run_part_plain w hk e1,run_part_plain w hk e2,Result.andThen_ok,he]
   cases eqB a x.1 y.1 with
   |false=>rfl
   |true=>simpa using ih
  ·cases h
 | [],_,.int _,_,_,r,h,_,_,_,_,_,_,_,_=>by simp [eqFs] at h
 | [],_,.bool,_,_,r,h,_,_,_,_,_,_,_,_=>by simp [eqFs] at h
 | [],_,.str,_,_,r,h,_,_,_,_,_,_,_,_=>by simp [eqFs] at h
 | [],_,.sl _,_,_,r,h,_,_,_,_,_,_,_,_=>by simp [eqFs] at h
 | [],_,.pr _ _,_,_,r,h,_,_,_,_,_,_,_,_=>by simp [eqFs] at h
 | [],_,.ar _ _,_,_,r,h,_,_,_,_,_,_,_,_=>by simp [eqFs] at h
 |_::_,_,.int _,_,_,r,h,_,_,_,_,_,_,_,_=>by simp [eqFs] at h
 |_::_,_,.bool,_,_,r,h,_,_,_,_,_,_,_,_=>by simp [eqFs] at h
 |_::_,_,.str,_,_,r,h,_,_,_,_,_,_,_,_=>by simp [eqFs] at h
 |_::_,_,.sl _,_,_,r,h,_,_,_,_,_,_,_,_=>by simp [eqFs] at h
 |_::_,_,.un,_,_,r,h,_,_,_,_,_,_,_,_=>by simp [eqFs] at h
 |_::_,_,.ar _ _,_,_,r,h,_,_,_,_,_,_,_,_=>by simp [eqFs] at h
theorem eqSt_run {T:TypeId} {fs:Array Field} (hu:P.underlying T=some (.struct fs)) {t:Ty} {x y:t.D} {r:Bool} (h:eqSt P T fs t x y=some r) {cs ds:List Value} (hx:rep F w t x cs) (hy:rep F w t y ds) :
  P.eqGuardType P.depth T=false/\(Op.equalIn 10000 T (.agg cs.toArray) (.agg ds.toArray)).run P w=.ok r w:=by
 unfold eqSt at h
 split at h
 ·cases h
 ·rename_i hg
  simp only [Bool.or_eq_false_iff] at hg
  have hf:P.fieldsOf T=fs:=by simp [Program.fieldsOf,hu]
  refine ⟨hg.2,?_⟩
  rw [show (10000:Nat)=9999+1 from rfl,run_equalIn_struct w 9999 T _ _ (by rw [hf];exact hu) hg.1,hf]
  have:=eqFs_run (P:=P) (F:=F) (w:=w) 9998 fs.toList 0 t x y r h cs ds [] [] rfl rfl hx hy
  simpa using this
theorem gatherD_rep:∀ (t:Ty) (l:List AV) (y:t.D),gatherD t l=some y->∀ (vs:List Value),RelCs F w β l vs->rep F w t y vs
 |.un,[],y,h,vs,hr=>by cases hr;simp only [rep]
 |.pr a b,.dat t x::l,y,h,vs,hr=>by
  simp only [gatherD] at h
  obtain ⟨y1,h1,h2⟩:=zB.1 h
  obtain ⟨z,h3,rfl⟩:=zM.1 h2
  cases hr with
  |cons _ _ us ws hc he hl=>
   simp only [rep]
   refine ⟨us,ws,rfl,?_,gatherD_rep b l z h3 ws hl⟩
   unfold cast' at h1
   split at h1
   ·rename_i e
    cases e
    cases h1
    cases hc with
    |dat _ _ _ h=>exact h
   ·cases h1
 |.un,_::_,_,h,_,_=>by simp [gatherD] at h
 |.pr _ _,[],_,h,_,_=>by simp [gatherD] at h
 |.pr _ _,.nilS::_,_,h,_,_=>by simp [gatherD] at h
 |.pr _ _,.nilP::_,_,h,_,_=>by simp [gatherD] at h
 |.pr _ _,.nilF::_,_,h,_,_=>by simp [gatherD] at h
 |.pr _ _,.full _::_,_,h,_,_=>by simp [gatherD] at h
 |.pr _ _,.sub ..::_,_,h,_,_=>by simp [gatherD] at h
 |.pr _ _,.ptr ..::_,_,h,_,_=>by simp [gatherD] at h
 |.pr _ _,.fptr ..::_,_,h,_,_=>by simp [gatherD] at h
 |.pr _ _,.nz ..::_,_,h,_,_=>by simp [gatherD] at h
 |.pr _ _,.mp ..::_,_,h,_,_=>by simp [gatherD] at h
 |.pr _ _,.fn ..::_,_,h,_,_=>by simp [gatherD] at h
 |.pr _ _,.agg _::_,_,h,_,_=>by simp [gatherD] at h
 |.pr _ _,.tup _::_,_,h,_,_=>by simp [gatherD] at h
 |.pr _ _,.any::_,_,h,_,_=>by simp [gatherD] at h
 |.int _,_,_,h,_,_=>by simp [gatherD] at h
 |.bool,_,_,h,_,_=>by simp [gatherD] at h
 |.str,_,_,h,_,_=>by simp [gatherD] at h
 |.sl _,_,_,h,_,_=>by simp [gatherD] at h
 |.ar _ _,_,_,h,_,_=>by simp [gatherD] at h
theorem und {T:TypeId} {d:TypeDesc} (h:P.underlying T=some d):(underlying T).run P w=.ok d w:=run_underlying h w
theorem sim_bin {T:TypeId} {op:BinOp} {x y:Operand} {a b c:AV} {u v:Value} (h:exBin P T op a b=some c) (ha:RelV F w β a u) (hb:RelV F w β b v) :
  ∃ r,((do eqGuard op T x y u v;binOp op T u v):Sem Value).run P w=.ok r w/\RelV F w β c r:=by
 unfold exBin at h
 split at h
 ·rename_i k p k' q
  rw [ha.int_inv,hb.int_inv]
  obtain ⟨r,h1,h2⟩:=sim_int (P:=P) (F:=F) (w:=w) (β:=β) (T:=T) h (fun e=>by subst e;exact toI_u8 _)
  exact ⟨r,by simp only [Sem.run_bind,guard_int,Result.andThen_ok,h1],h2⟩
 ·rename_i p q
  rw [ha.str_inv,hb.str_inv]
  obtain ⟨r,h1,h2⟩:=sim_str (P:=P) (F:=F) (w:=w) (β:=β) (T:=T) h
  exact ⟨r,by simp only [Sem.run_bind,guard_str,Result.andThen_ok,h1],h2⟩
 ·rename_i p q
  rw [ha.bool_inv,hb.bool_inv]
  split at h
  ·rename_i ht
   cases h
   exact ⟨.bool (p == q),by simp [guard_bool,binOp,equal_def,eq_bool _ ht,pure,Sem.run],RelV.bool _⟩
  ·rename_i ht
   cases h
   exact ⟨.bool (!(p == q)),by simp [guard_bool,binOp,equal_def,eq_bool _ ht,pure,Sem.run],RelV.bool _⟩
  ·cases h
 ·obtain ⟨_,b',o,rfl,_,_,_⟩:=ha.ptr_inv
  rw [hb.nilP_inv]
  split at h
  ·rename_i ht
   cases h
   exact ⟨.bool false,by simp [guard_ptr,binOp,equal_def,eq_ptr_nil _ ht,eq_nil_nil _ ht,pure,Sem.run],RelV.bool _⟩
  ·rename_i ht
   cases h
   exact ⟨.bool true,by simp [guard_ptr,binOp,equal_def,eq_ptr_nil _ ht,eq_nil_nil _ ht,pure,Sem.run],RelV.bool _⟩
  ·cases h
 ·obtain ⟨A,n,c',rfl,_,rfl⟩:=ha.nz_inv
  rw [hb.nilS_inv]
  split at h
  ·rename_i ht
   cases h
   exact ⟨.bool A.isNone,by simp [guard_slice,binOp,equal_def,eq_slice_nil _ ht,pure,Sem.run],RelV.bool _⟩
  ·rename_i ht
   cases h
   exact ⟨.bool (!A.isNone),by simp [guard_slice,binOp,equal_def,eq_slice_nil _ ht,pure,Sem.run],RelV.bool _⟩
  ·cases h
 ·rw [hb.nilP_inv]
  rcases ha.mp_inv with ⟨rfl,rfl⟩|⟨rfl,hp⟩
  ·split at h
   ·rename_i ht
    cases h
    exact ⟨.bool true,by simp [guard_ptr,binOp,equal_def,eq_ptr_nil _ ht,eq_nil_nil _ ht,pure,Sem.run],RelV.bool _⟩
   ·rename_i ht
    cases h
    exact ⟨.bool false,by simp [guard_ptr,binOp,equal_def,eq_ptr_nil _ ht,eq_nil_nil _ ht,pure,Sem.run],RelV.bool _⟩
   ·cases h
  ·obtain ⟨b',o,us,rfl,_,_,_⟩:=hp.fptr_inv
   split at h
   ·rename_i ht
    cases h
    exact ⟨.bool false,by simp [guard_ptr,binOp,equal_def,eq_ptr_nil _ ht,eq_nil_nil _ ht,pure,Sem.run],RelV.bool _⟩
   ·rename_i ht
    cases h
    exact ⟨.bool true,by simp [guard_ptr,binOp,equal_def,eq_ptr_nil _ ht,eq_nil_nil _ ht,pure,Sem.run],RelV.bool _⟩
   ·cases h
 ·rw [ha.nilP_inv,hb.nilP_inv]
  split at h
  ·rename_i ht
   cases h
   exact ⟨.bool true,by simp [guard_ptr,binOp,equal_def,eq_ptr_nil _ ht,eq_nil_nil _ ht,pure,Sem.run],RelV.bool _⟩
  ·rename_i ht
   cases h
   exact ⟨.bool false,by simp [guard_ptr,binOp,equal_def,eq_ptr_nil _ ht,eq_nil_nil _ ht,pure,Sem.run],RelV.bool _⟩
  ·cases h
 ·rename_i ta tb x tc td y
  have hrep:∀ {t:Ty} {z:t.D} {v:Value},isMany (.dat t z)=true->RelV F w β (.dat t z) v->∃ cs,v=.agg cs.toArray/\rep F w t z cs:=fun hm hv=>by
   rcases hv.dat_inv with ⟨h1,_⟩|⟨_,h2⟩
   ·rw [hm] at h1;cases h1
   ·exact h2
  obtain ⟨cs,rfl,hx⟩:=hrep rfl ha
  obtain ⟨ds,rfl,hy⟩:=hrep rfl hb
  have hcast:∀ {y':(Ty.pr ta tb).D},cast' (a:=.pr tc td) (b:=.pr ta tb) y=some y'->rep F w (.pr ta tb) y' ds:=fun {y'} hc=>by
   unfold cast' at hc
   split at hc
   ·rename_i e
    cases e
    cases hc
    exact hy
   ·cases hc
  split at h
  ·rename_i fs y' hu hc
   obtain ⟨r,hr,rfl⟩:=zM.1 h
   obtain ⟨h1,h2⟩:=eqSt_run hu hr hx (hcast hc)
   exact ⟨.bool r,by simp only [Sem.run_bind,run_eqGuard_agg w _ _ _ _ _ _ h1,Result.andThen_ok,run_eql_struct,h2],RelV.bool _⟩
  ·rename_i fs y' hu hc
   obtain ⟨r,hr,rfl⟩:=zM.1 h
   obtain ⟨h1,h2⟩:=eqSt_run hu hr hx (hcast hc)
   exact ⟨.bool (!r),by simp only [Sem.run_bind,run_eqGuard_agg w _ _ _ _ _ _ h1,Result.andThen_ok,run_neq_struct,h2],RelV.bool _⟩
  ·cases h
 ·rename_i ta tb x ys
  obtain ⟨cs,rfl,hx⟩:∃ cs,u=.agg cs.toArray/\rep F w (.pr ta tb) x cs:=by
   rcases ha.dat_inv with ⟨h1,_⟩|⟨_,h2⟩
   ·cases h1
   ·exact h2
  obtain ⟨ds,rfl,hys⟩:=hb.agg_inv
  split at h
  ·rename_i fs y' hu hc
   obtain ⟨r,hr,rfl⟩:=zM.1 h
   obtain ⟨h1,h2⟩:=eqSt_run hu hr hx (gatherD_rep _ _ _ hc _ hys)
   exact ⟨.bool r,by simp only [Sem.run_bind,run_eqGuard_agg w _ _ _ _ _ _ h1,Result.andThen_ok,run_eql_struct,h2],RelV.bool _⟩
  ·rename_i fs y' hu hc
   obtain ⟨r,hr,rfl⟩:=zM.1 h
   obtain ⟨h1,h2⟩:=eqSt_run hu hr hx (gatherD_rep _ _ _ hc _ hys)
   exact ⟨.bool (!r),by simp only [Sem.run_bind,run_eqGuard_agg w _ _ _ _ _ _ h1,Result.andThen_ok,run_neq_struct,h2],RelV.bool _⟩
  ·cases h
 ·cases h
theorem sim_un {op:UnOp} {a c:AV} {u:Value} (h:exUn op a=some c) (ha:RelV F w β a u):∃ r,(Op.unary op u).run P w=.ok r w/\RelV F w β c r:=by
 unfold exUn at h
 split at h
 ·rw [ha.int_inv];cases h
  exact ⟨_,by simp only [Op.unary,Op.intArith,pure,Sem.run],RelV.int (toI_wrI _ _)⟩
 ·rw [ha.int_inv];cases h
  exact ⟨_,by simp only [Op.unary];exact intBits_run P w .xor _ _ _ (by simp),RelV.int (toI_wrI _ _)⟩
 ·rw [ha.bool_inv];cases h
  exact ⟨_,by simp only [Op.unary,pure,Sem.run],RelV.bool _⟩
 ·cases h
end
end
section
theorem seg_seg {α} (l:List α) {a n b m:Nat} (h:b+m<=n):((((l.drop a).take n).drop b).take m)=(l.drop (a+b)).take m:=by
 rw [List.drop_take,List.take_take,List.drop_drop,Nat.min_eq_left (by omega)]
def splice {α} (l:List α) (k:Nat) (us:List α):List α:=l.take k++(us++l.drop (k+us.length))
theorem splice_len {α} (l:List α) (k:Nat) (us:List α) (h:k+us.length<=l.length):(splice l k us).length=l.length:=by
 simp [splice];omega
theorem splice_get {α} (l:List α) (k:Nat) (us:List α) (h:k+us.length<=l.length) (j:Nat) :
  (splice l k us)[j]?=if j<k then l[j]? else if j<k+us.length then us[j - k]? else l[j]?:=by
 unfold splice
 by_cases h1:j<k
 ·rw [if_pos h1,List.getElem?_append_left (by simp;omega),List.getElem?_take_of_lt h1]
 ·rw [if_neg h1,List.getElem?_append_right (by simp;omega)]
  simp only [List.length_take,Nat.min_eq_left (show k<=l.length by omega)]
  by_cases h2:j<k+us.length
  ·rw [if_pos h2,List.getElem?_append_left (by omega)]
  ·rw [if_neg h2,List.getElem?_append_right (by omega),List.getElem?_drop]
   congr 1;omega
theorem seg_get {α} (l:List α) (a n j:Nat):((l.drop a).take n)[j]?=if j<n then l[a+j]? else none:=by
 by_cases h:j<n
 ·rw [if_pos h,List.getElem?_take_of_lt h,List.getElem?_drop]
 ·rw [if_neg h,List.getElem?_take];simp [h]
theorem splice_apart {α} (l:List α) (k:Nat) (us:List α) (h:k+us.length<=l.length) (a n:Nat) (ha:a+n<=k\/k+us.length<=a) :
  ((splice l k us).drop a).take n=(l.drop a).take n:=by
 apply List.ext_getElem?
 intro j
 rw [seg_get,seg_get]
 split
 ·rw [splice_get _ _ _ h]
  rcases ha with ha|ha
  ·rw [if_pos (by omega)]
  ·rw [if_neg (by omega),if_neg (by omega)]
 ·rfl
theorem splice_in {α} (l:List α) (k:Nat) (us:List α) (a n:Nat) (ha:a<=k) (hb:k+us.length<=a+n) (hl:a+n<=l.length) :
  ((splice l k us).drop a).take n=splice ((l.drop a).take n) (k - a) us:=by
 have hl':((l.drop a).take n).length=n:=by simp;omega
 have h0:k - a+us.length<=((l.drop a).take n).length:=by omega
 have h00:k+us.length<=l.length:=by omega
 apply List.ext_getElem?
 intro j
 rw [seg_get,splice_get _ _ _ h0,splice_get _ _ _ h00,seg_get]
 by_cases h:j<n
 ·rw [if_pos h,if_pos h]
  by_cases h1:a+j<k
  ·rw [if_pos h1,if_pos (show j<k - a by omega)]
  ·rw [if_neg h1,if_neg (show ¬ j<k - a by omega)]
   by_cases h2:a+j<k+us.length
   ·rw [if_pos h2,if_pos (show j<k - a+us.length by omega)];congr 1;omega
   ·rw [if_neg h2,if_neg (show ¬ j<k - a+us.length by omega)]
 ·rw [if_neg h,if_neg h,if_neg (by omega),if_neg (by omega)]
theorem splice_splice {α} (l:List α) (us:List α) (a n b:Nat) (hb:b+us.length<=n) (hl:a+n<=l.length) :
  splice l a (splice ((l.drop a).take n) b us)=splice l (a+b) us:=by
 have hs:((l.drop a).take n).length=n:=by simp;omega
 have h0:b+us.length<=((l.drop a).take n).length:=by omega
 have h1:(splice ((l.drop a).take n) b us).length=n:=by rw [splice_len _ _ _ h0,hs]
 have h2:a+(splice ((l.drop a).take n) b us).length<=l.length:=by omega
 have h3:(a+b)+us.length<=l.length:=by omega
 apply List.ext_getElem?
 intro j
 rw [splice_get _ _ _ h2,splice_get _ _ _ h3,h1,splice_get _ _ _ h0,seg_get]
 by_cases c1:j<a
 ·rw [if_pos c1,if_pos (show j<a+b by omega)]
 ·rw [if_neg c1]
  by_cases c2:j<a+n
  ·rw [if_pos c2,if_pos (show j - a<n by omega)]
   by_cases c3:j - a<b
   ·rw [if_pos c3,if_pos (show j<a+b by omega)];congr 1;omega
   ·rw [if_neg c3,if_neg (show ¬ j<a+b by omega)]
    by_cases c4:j - a<b+us.length
    ·rw [if_pos c4,if_pos (show j<a+b+us.length by omega)];congr 1;omega
    ·rw [if_neg c4,if_neg (show ¬ j<a+b+us.length by omega)];congr 1;omega
  ·rw [if_neg c2,if_neg (show ¬ j<a+b by omega),if_neg (show ¬ j<a+b+us.length by omega)]
theorem splice_self {α} (l:List α) (k:Nat) (us:List α) (h:k+us.length<=l.length):((splice l k us).drop k).take us.length=us:=by
 apply List.ext_getElem?
 intro j
 rw [seg_get]
 by_cases h1:j<us.length
 ·rw [if_pos h1,splice_get _ _ _ h,if_neg (by omega),if_pos (by omega)];congr 1;omega
 ·rw [if_neg h1,List.getElem?_eq_none (by omega)]
theorem splice_all {α} (l us:List α) (h:us.length=l.length):splice l 0 us=us:=by
 unfold splice;simp [h]
section
variable {F:Nat->Prop} {w:World} {β:Nat->Option Conc}
theorem cast'_some {a b:Ty} {x:a.D} {y:b.D} (h:cast' x=some y):∃ e:a=b,y=e▸x:=by
 unfold cast' at h
 split at h
 ·rename_i e;cases h;exact ⟨e,rfl⟩
 ·cases h
theorem castL_some {a b:Ty} {x:List a.D} {y:List b.D} (h:castL x=some y):∃ e:a=b,y=e▸x:=by
 unfold castL at h
 split at h
 ·rename_i e;cases h;exact ⟨e,rfl⟩
 ·cases h
theorem cast'_rep {a b:Ty} {x:a.D} {y:b.D} {vs} (h:cast' x=some y) (hr:rep F w a x vs):a=b/\rep F w b y vs:=by
 obtain ⟨e,rfl⟩:=cast'_some h
 subst e
 exact ⟨rfl,hr⟩
theorem proj_leaf {t:Ty} {x:t.D} {off:Nat} {u:Ty} {y:u.D} (hp:∀ a b,t≠.pr a b) (h:proj t x off u=some y):off=0/\cast' x=some y:=by
 have:proj t x off u=if off=0 then cast' x else none:=by cases t<;>first|rfl|exact absurd rfl (hp _ _)
 rw [this] at h
 split at h
 ·exact ⟨by assumption,h⟩
 ·cases h
theorem proj_rep:∀ (t:Ty) (x:t.D) (vs:List Value) (off:Nat) (u:Ty) (y:u.D),rep F w t x vs->proj t x off u=some y ->
  off+u.sz<=vs.length/\rep F w u y ((vs.drop off).take u.sz):=by
 intro t
 induction t with
 |pr a b iha ihb=>
  intro x vs off u y hr h
  simp only [proj] at h
  split at h
  ·rename_i h0
   obtain ⟨rfl,rfl⟩:=h0
   obtain ⟨_,hr'⟩:=cast'_rep h hr
   have:=rep_len _ _ _ hr
   exact ⟨by omega,by simpa [←this] using hr'⟩
  ·simp only [rep] at hr
   obtain ⟨us,ws,rfl,h1,h2⟩:=hr
   have l1:=rep_len _ _ _ h1
   split at h
   ·obtain ⟨h3,h4⟩:=iha _ _ _ _ _ h1 h
    refine ⟨by simp;omega,?_⟩
    rwa [List.drop_append_of_le_length (by omega),List.take_append_of_le_length (by simp;omega)]
   ·obtain ⟨h3,h4⟩:=ihb _ _ _ _ _ h2 h
    refine ⟨by simp;omega,?_⟩
    rw [List.drop_append,List.drop_of_length_le (by omega),List.nil_append,l1]
    exact h4
 |_=>
  intro x vs off u y hr h
  obtain ⟨rfl,h⟩:=proj_leaf (by intro a b;simp) h
  obtain ⟨e,hr'⟩:=cast'_rep h hr
  have:=rep_len _ _ _ hr'
  exact ⟨by omega,by simpa [←this] using hr'⟩
theorem inj_leaf {t:Ty} {x:t.D} {off:Nat} {u:Ty} {v:u.D} {y:t.D} (hp:∀ a b,t≠.pr a b) (h:inj t x off u v=some y):off=0/\cast' v=some y:=by
 have:inj t x off u v=if off=0 then cast' v else none:=by cases t<;>first|rfl|exact absurd rfl (hp _ _)
 rw [this] at h
 split at h
 ·exact ⟨by assumption,h⟩
 ·cases h
theorem inj_rep:∀ (t:Ty) (x:t.D) (vs:List Value) (off:Nat) (u:Ty) (v:u.D) (us:List Value) (y:t.D),rep F w t x vs->rep F w u v us->inj t x off u v=some y ->
  off+u.sz<=vs.length/\rep F w t y (splice vs off us):=by
 intro t
 induction t with
 |pr a b iha ihb=>
  intro x vs off u v us y hr hv h
  have lu:=rep_len _ _ _ hv
  simp only [inj] at h
  split at h
  ·rename_i h0
   obtain ⟨rfl,rfl⟩:=h0
   obtain ⟨_,hr'⟩:=cast'_rep h hv
   have:=rep_len _ _ _ hr
   refine ⟨by omega,?_⟩
   rwa [splice_all _ _ (by omega)]
  ·simp only [rep] at hr
   obtain ⟨p,q,rfl,h1,h2⟩:=hr
   have l1:=rep_len _ _ _ h1
   split at h
   ·cases hy:inj a x.1 off u v with
    |none=>rw [hy] at h;cases h
    |some z=>
     rw [hy] at h;cases h
     obtain ⟨h3,h4⟩:=iha _ _ _ _ _ _ _ h1 hv hy
     refine ⟨by simp;omega,?_⟩
     simp only [rep]
     refine ⟨_,q,?_,h4,h2⟩
     unfold splice
     rw [List.take_append_of_le_length (by omega),List.drop_append_of_le_length (by omega)]
     simp
   ·cases hy:inj b x.2 (off - a.sz) u v with
    |none=>rw [hy] at h;cases h
    |some z=>
     rw [hy] at h;cases h
     obtain ⟨h3,h4⟩:=ihb _ _ _ _ _ _ _ h2 hv hy
     refine ⟨by simp;omega,?_⟩
     simp only [rep]
     refine ⟨p,_,?_,h1,h4⟩
     unfold splice
     rw [List.take_append,List.take_of_length_le (by omega),List.drop_append,List.drop_of_length_le (by omega),l1]
     simp
     congr 1;omega
 |_=>
  intro x vs off u v us y hr hv h
  obtain ⟨rfl,h⟩:=inj_leaf (by intro a b;simp) h
  obtain ⟨e,hr'⟩:=cast'_rep h hv
  subst e
  have:=rep_len _ _ _ hr
  have:=rep_len _ _ _ hr'
  refine ⟨by omega,?_⟩
  rwa [splice_all _ _ (by omega)]
theorem projA_rep:∀ (t:Ty) (x:t.D) (vs:List Value) (off:Nat) (e:Ty) (n:Nat) (xs:List e.D),rep F w t x vs->projA t x off=some ⟨e,n,xs⟩ ->
  tyArr t off=some (n,e)/\off+n*e.sz<=vs.length/\rep F w (.ar n e) xs ((vs.drop off).take (n*e.sz)):=by
 intro t
 induction t with
 |pr a b iha ihb=>
  intro x vs off e n xs hr h
  simp only [rep] at hr
  obtain ⟨us,ws,rfl,h1,h2⟩:=hr
  have l1:=rep_len _ _ _ h1
  simp only [projA,tyArr] at h ⊢
  split at h
  ·rename_i hlt
   rw [if_pos hlt]
   obtain ⟨h0,h3,h4⟩:=iha _ _ _ _ _ _ h1 h
   refine ⟨h0,by simp;omega,?_⟩
   rwa [List.drop_append_of_le_length (by omega),List.take_append_of_le_length (by simp;omega)]
  ·rename_i hlt
   rw [if_neg hlt]
   obtain ⟨h0,h3,h4⟩:=ihb _ _ _ _ _ _ h2 h
   refine ⟨h0,by simp;omega,?_⟩
   rw [List.drop_append,List.drop_of_length_le (by omega),List.nil_append,l1]
   exact h4
 |ar m e' _=>
  intro x vs off e n xs hr h
  simp only [projA] at h
  split at h
  ·rename_i h0
   subst h0
   cases h
   have:=rep_len _ _ _ hr
   simp only [Ty.sz] at this
   refine ⟨rfl,by omega,?_⟩
   rw [List.drop_zero,List.take_of_length_le (by omega)]
   exact hr
  ·cases h
 |_=>intro x vs off e n xs hr h;cases h
theorem getD_get {α} (xs:List α) (i:Nat) (d:α) (h:i<xs.length):xs.getD i d=xs.get ⟨i,h⟩:=by simp [List.getD,h]
theorem ar_elem {n:Nat} {e:Ty} {xs:List e.D} {vs:List Value} (h:rep F w (.ar n e) xs vs) {i:Nat} (hi:i<n) :
  (i+1)*e.sz<=vs.length/\rep F w e (xs.getD i e.dflt) ((vs.drop (i*e.sz)).take e.sz):=by
 simp only [rep] at h
 obtain ⟨h1,h2,h3⟩:=h
 have hl:i<xs.length:=by rw [h1];exact hi
 refine ⟨by rw [h2];exact Nat.mul_le_mul_right _ hi,?_⟩
 have:=h3 i hl
 rwa [getD_get _ _ _ hl]
theorem ar_set {n:Nat} {e:Ty} {xs:List e.D} {vs:List Value} (h:rep F w (.ar n e) xs vs) {i:Nat} (hi:i<n) {y:e.D} {us:List Value} (hy:rep F w e y us) :
  rep F w (.ar n e) (xs.set i y) (splice vs (i*e.sz) us):=by
 have hu:=rep_len _ _ _ hy
 simp only [rep] at h ⊢
 obtain ⟨h1,h2,h3⟩:=h
 have hm:(i+1)*e.sz<=n*e.sz:=Nat.mul_le_mul_right _ hi
 have hle:i*e.sz+us.length<=vs.length:=by rw [Nat.add_mul] at hm;omega
 refine ⟨by rw [List.length_set];exact h1,by rw [splice_len _ _ _ hle];exact h2,fun j hj=>?_⟩
 by_cases e':j=i
 ·subst e'
  have hs:=splice_self vs (j*e.sz) us hle
  rw [hu] at hs
  rw [hs]
  simpa using hy
 ·have hj':j<xs.length:=by simpa using hj
  have hg:List.get (xs.set i y) ⟨j,hj⟩=List.get xs ⟨j,hj'⟩:=by
   simp [List.getElem_set_ne (Ne.symm e')]
  rw [hg,splice_apart _ _ _ hle]
  ·exact h3 j hj'
  ·rcases Nat.lt_or_ge j i with h|h
   ·left
    have:(j+1)*e.sz<=i*e.sz:=Nat.mul_le_mul_right _ h
    rw [Nat.add_mul] at this;omega
   ·right
    have:(i+1)*e.sz<=j*e.sz:=Nat.mul_le_mul_right _ (by omega)
    rw [Nat.add_mul] at this;omega
theorem getP_rep:∀ (path:List (Int×Nat)) (t:Ty) (x:t.D) (vs:List Value) (off:Nat) (u:Ty) (y:u.D) (k:Nat),rep F w t x vs->getP path t x off u=some y ->
  innerAt t off path=some k->k+u.sz<=vs.length/\rep F w u y ((vs.drop k).take u.sz)
 | [],t,x,vs,off,u,y,k,hr,h,hk=>by
  simp only [getP,innerAt] at h hk
  cases hk
  exact proj_rep _ _ _ _ _ _ hr h
 |(i,o)::rest,t,x,vs,off,u,y,k,hr,h,hk=>by
  simp only [getP] at h
  split at h
  ·rename_i e n xs hA
   obtain ⟨hT,hle,hA'⟩:=projA_rep _ _ _ _ _ _ _ hr hA
   simp only [innerAt,hT] at hk
   split at hk
   ·rename_i hin
    cases hk':innerAt e o rest with
    |none=>rw [hk'] at hk;cases hk
    |some k'=>
     rw [hk'] at hk;cases hk
     obtain ⟨h1,h2⟩:=ar_elem hA' (i:=i.toNat) (by omega)
     obtain ⟨h3,h4⟩:=getP_rep rest e _ _ o u y k' h2 h hk'
     have hl2:=rep_len _ _ _ h2
     have hmul:(i.toNat+1)*e.sz<=n*e.sz:=Nat.mul_le_mul_right _ (by omega)
     rw [Nat.add_mul] at hmul
     rw [seg_seg _ (show i.toNat*e.sz+e.sz<=n*e.sz by omega),seg_seg _ (show k'+u.sz<=e.sz by omega)] at h4
     show off+i.toNat*e.sz+k'+u.sz<=vs.length/\rep F w u y ((vs.drop (off+i.toNat*e.sz+k')).take u.sz)
     exact ⟨by omega,h4⟩
   ·cases hk
  ·cases h
theorem setP_rep:∀ (path:List (Int×Nat)) (t:Ty) (x:t.D) (vs:List Value) (off:Nat) (u:Ty) (v:u.D) (us:List Value) (y:t.D) (k:Nat),rep F w t x vs->rep F w u v us ->
  setP path t x off u v=some y->innerAt t off path=some k->k+u.sz<=vs.length/\rep F w t y (splice vs k us)
 | [],t,x,vs,off,u,v,us,y,k,hr,hv,h,hk=>by
  simp only [setP,innerAt] at h hk
  cases hk
  exact inj_rep _ _ _ _ _ _ _ _ hr hv h
 |(i,o)::rest,t,x,vs,off,u,v,us,y,k,hr,hv,h,hk=>by
  have lu:=rep_len _ _ _ hv
  simp only [setP] at h
  split at h
  ·rename_i e n xs hA
   obtain ⟨hT,hle,hA'⟩:=projA_rep _ _ _ _ _ _ _ hr hA
   simp only [innerAt,hT] at hk
   split at hk
   ·rename_i hin
    cases hk':innerAt e o rest with
    |none=>rw [hk'] at hk;cases hk
    |some k'=>
     rw [hk'] at hk;cases hk
     obtain ⟨h1,h2⟩:=ar_elem hA' (i:=i.toNat) (by omega)
     cases hz:setP rest e (xs.getD i.toNat e.dflt) o u v with
     |none=>rw [hz] at h;cases h
     |some z=>
      rw [hz] at h
      simp only [zb] at h
      obtain ⟨h3,h4⟩:=setP_rep rest e _ _ o u v us z k' h2 hv hz hk'
      have h5:=ar_set hA' (i:=i.toNat) (by omega) h4
      obtain ⟨h6,h7⟩:=inj_rep _ _ _ _ _ _ _ _ hr h5 h
      have hl2:=rep_len _ _ _ h2
      have hmul:(i.toNat+1)*e.sz<=n*e.sz:=Nat.mul_le_mul_right _ (by omega)
      rw [Nat.add_mul] at hmul
      show off+i.toNat*e.sz+k'+u.sz<=vs.length/\rep F w t y (splice vs (off+i.toNat*e.sz+k') us)
      refine ⟨by omega,?_⟩
      have e1:=splice_splice ((vs.drop off).take (n*e.sz)) us (i.toNat*e.sz) e.sz k' (by omega) (by simp;omega)
      rw [e1] at h7
      have e2:=splice_splice vs us off (n*e.sz) (i.toNat*e.sz+k') (by omega) (by omega)
      rw [←Nat.add_assoc] at e2
      rw [e2] at h7
      exact h7
   ·cases hk
  ·cases h
end
end
section
section
variable {P:Program} {F:Nat->Prop} {w:World} {β:Nat->Option Conc}
theorem takeL_rel:∀ (cs:List AV) (off n:Nat) (l:List AV) (vs:List Value),takeL cs off n=some l->RelCs F w β cs vs ->
  off+n<=vs.length/\RelCs F w β l ((vs.drop off).take n)
 | [],off,n,l,vs,h,hr=>by
  cases hr
  simp only [takeL] at h
  split at h
  ·rename_i e;obtain ⟨rfl,rfl⟩:=e;cases h;exact ⟨by simp,.nil⟩
  ·cases h
 |a::cs,off,n,l,_,h,.cons _ _ us vs h1 h2 h3=>by
  simp only [takeL] at h
  split at h
  ·rename_i e;subst e
   split at h
   ·rename_i e;subst e;cases h;exact ⟨by simp,.nil⟩
   ·split at h
    ·rename_i hle
     cases ht:takeL cs 0 (n - a.csz) with
     |none=>rw [ht] at h;cases h
     |some l'=>
      rw [ht] at h;cases h
      obtain ⟨h4,h5⟩:=takeL_rel cs 0 _ l' vs ht h3
      refine ⟨by simp;omega,?_⟩
      rw [List.drop_zero,List.take_append,List.take_of_length_le (by omega),h2]
      exact .cons _ _ us _ h1 h2 (by simpa using h5)
    ·cases h
  ·split at h
   ·obtain ⟨h4,h5⟩:=takeL_rel cs _ _ l vs h h3
    refine ⟨by simp;omega,?_⟩
    rwa [List.drop_append,List.drop_of_length_le (by omega),List.nil_append,h2]
   ·cases h
theorem putL_rel:∀ (cs:List AV) (off n:Nat) (ns:List AV) (l:List AV) (vs us:List Value),putL cs off n ns=some l->RelCs F w β cs vs->RelCs F w β ns us->us.length=n ->
  off+n<=vs.length/\RelCs F w β l (splice vs off us)
 | [],off,n,ns,l,vs,us,h,hr,hn,hu=>by
  cases hr
  simp only [putL] at h
  split at h
  ·rename_i e;obtain ⟨rfl,rfl⟩:=e;cases h;exact ⟨by simp,by simpa [splice] using hn⟩
  ·cases h
 |a::cs,off,n,ns,l,_,us,h,.cons _ _ ws vs h1 h2 h3,hn,hu=>by
  simp only [putL] at h
  split at h
  ·rename_i e;subst e
   split at h
   ·rename_i e;subst e;cases h
    refine ⟨by simp,?_⟩
    have:us=[]:=List.eq_nil_of_length_eq_zero hu
    subst this
    simpa [splice] using hn.append (.cons _ _ ws vs h1 h2 h3)
   ·split at h
    ·rename_i hle
     have hdrop:∀ zs:List Value,zs.length=n - a.csz->True:=fun _ _=>trivial
     have key:∀ (cs:List AV) (m:Nat) (l:List AV) (vs:List Value),putL cs 0 m ns=some l->RelCs F w β cs vs->m<=vs.length/\RelCs F w β l (us++vs.drop m):=by
      intro cs
      induction cs with
      |nil=>
       intro m l vs h hr
       cases hr
       simp only [putL] at h
       split at h
       ·rename_i e;obtain ⟨_,rfl⟩:=e;cases h;exact ⟨by simp,by simpa using hn⟩
       ·cases h
      |cons a cs ih=>
       intro m l vs h hr
       cases hr with
       |cons _ _ ws vs h1 h2 h3=>
       simp only [putL,if_true] at h
       split at h
       ·rename_i e;subst e;cases h
        exact ⟨by simp,by simpa using hn.append (.cons _ _ ws vs h1 h2 h3)⟩
       ·split at h
        ·obtain ⟨h4,h5⟩:=ih _ _ _ h h3
         refine ⟨by simp;omega,?_⟩
         rwa [List.drop_append,List.drop_of_length_le (by omega),List.nil_append,h2]
        ·cases h
     obtain ⟨h4,h5⟩:=key cs _ l vs h h3
     refine ⟨by simp;omega,?_⟩
     unfold splice
     rw [List.take_zero,List.nil_append,hu,Nat.zero_add,List.drop_append,List.drop_of_length_le (by omega),List.nil_append,h2]
     exact h5
    ·cases h
  ·split at h
   ·cases ht:putL cs (off - a.csz) n ns with
    |none=>rw [ht] at h;cases h
    |some l'=>
     rw [ht] at h;cases h
     obtain ⟨h4,h5⟩:=putL_rel cs _ _ ns l' vs us ht h3 hn hu
     refine ⟨by simp;omega,?_⟩
     have:splice (ws++vs) off us=ws++splice vs (off - a.csz) us:=by
      unfold splice
      rw [List.take_append,List.take_of_length_le (by omega),List.drop_append,List.drop_of_length_le (by omega),h2,List.nil_append,List.append_assoc]
      congr 4;omega
     rw [this]
     exact .cons _ _ ws _ h1 h2 h5
   ·cases h
theorem leafAt_rel:∀ (cs:List AV) (off:Nat) (a:AV) (vs:List Value),leafAt cs off=some a->RelCs F w β cs vs ->
  off+a.csz<=vs.length/\RelC F w β a ((vs.drop off).take a.csz)
 | [],_,_,_,h,_=>by cases h
 |x::cs,off,a,_,h,.cons _ _ us vs h1 h2 h3=>by
  simp only [leafAt] at h
  split at h
  ·rename_i e;subst e;cases h
   refine ⟨by simp;omega,?_⟩
   rw [List.drop_zero,List.take_append_of_le_length (by omega),List.take_of_length_le (by omega)]
   exact h1
  ·split at h
   ·obtain ⟨h4,h5⟩:=leafAt_rel cs _ a vs h h3
    refine ⟨by simp;omega,?_⟩
    rwa [List.drop_append,List.drop_of_length_le (by omega),List.nil_append,h2]
   ·cases h
theorem leafAt_sh:∀ (cs:List AV) (off:Nat) (a:AV),leafAt cs off=some a->flat cs=true->shArr (cs.map leafSh) off=leafSh a
 | [],_,_,h,_=>by cases h
 |x::cs,off,a,h,hf=>by
  simp only [leafAt] at h
  simp only [flat,List.all_cons,Bool.and_eq_true,beq_iff_eq] at hf
  simp only [List.map_cons,shArr]
  split at h
  ·rename_i e;subst e;cases h;simp
  ·rename_i e
   rw [if_neg e,hf.1]
   split at h
   ·rename_i hle
    rw [if_pos hle]
    exact leafAt_sh cs _ a h hf.2
   ·cases h
theorem setLeaf_rel:∀ (cs:List AV) (off:Nat) (a v:AV) (cs':List AV) (vs us:List Value),leafAt cs off=some a->setLeaf cs off v=some cs'->RelCs F w β cs vs->RelC F w β v us->us.length=v.csz->v.csz=a.csz ->
  RelCs F w β cs' (splice vs off us)
 | [],_,_,_,_,_,_,h,_,_,_,_,_=>by cases h
 |x::cs,off,a,v,cs',_,us,h,h',.cons _ _ ws vs h1 h2 h3,hv,hu,he=>by
  simp only [leafAt] at h
  simp only [setLeaf] at h'
  split at h
  ·rename_i e;subst e;cases h
   rw [if_pos rfl] at h';cases h'
   have:splice (ws++vs) 0 us=us++vs:=by
    unfold splice
    rw [List.take_zero,List.nil_append,Nat.zero_add,List.drop_append,List.drop_of_length_le (by omega),List.nil_append,show us.length - ws.length=0 by omega,List.drop_zero]
   rw [this]
   exact .cons _ _ us _ hv hu h3
  ·rename_i e
   rw [if_neg e] at h'
   split at h
   ·rename_i hle
    rw [if_pos hle] at h'
    cases ht:setLeaf cs (off - x.csz) v with
    |none=>rw [ht] at h';cases h'
    |some l=>
     rw [ht] at h';cases h'
     have ih:=setLeaf_rel cs _ a v l vs us h ht h3 hv hu he
     have:splice (ws++vs) off us=ws++splice vs (off - x.csz) us:=by
      unfold splice
      rw [List.take_append,List.take_of_length_le (by omega),List.drop_append,List.drop_of_length_le (by omega),h2,List.nil_append,List.append_assoc]
      congr 4;omega
     rw [this]
     exact .cons _ _ ws _ h1 h2 ih
   ·cases h
theorem setLeaf_sh:∀ (cs:List AV) (off:Nat) (a v:AV) (cs':List AV),leafAt cs off=some a->setLeaf cs off v=some cs'->leafSh v=leafSh a->v.csz=a.csz ->
  cs'.map leafSh=cs.map leafSh/\flat cs'=flat cs
 | [],_,_,_,_,h,_,_,_=>by cases h
 |x::cs,off,a,v,cs',h,h',hs,he=>by
  simp only [leafAt] at h
  simp only [setLeaf] at h'
  split at h
  ·rename_i e;subst e;cases h
   rw [if_pos rfl] at h';cases h'
   exact ⟨by simp [hs],by simp [flat,hs,he]⟩
  ·rename_i e
   rw [if_neg e] at h'
   split at h
   ·rename_i hle
    rw [if_pos hle] at h'
    cases ht:setLeaf cs (off - x.csz) v with
    |none=>rw [ht] at h';cases h'
    |some l=>
     rw [ht] at h';cases h'
     obtain ⟨h1,h2⟩:=setLeaf_sh cs _ a v l h ht hs he
     refine ⟨by simp [h1],?_⟩
     unfold flat at h2 ⊢
     simp [h2]
   ·cases h
theorem rep_ar_iff {n:Nat} {e:Ty} {xs:List e.D} {vs:List Value}:rep F w (.ar n e) xs vs↔xs.length=n/\vs.length=n*e.sz /\
  ∀ i (h:i<xs.length),rep F w e (xs[i]) ((vs.drop (i*e.sz)).take e.sz):=by
 simp only [rep];rfl
theorem arrAt_rel {X H} (g:Good X F w β H) {id off:Nat} {t:Ty} {xs:List t.D} (h:arrAt H id off=some ⟨t,xs⟩) {c:Conc} (hc:β id=some c) :
  arrSh c.sh off=some (xs.length,t)/\(∀ b,c.b=some b->∃ l,cellsAt w b=some l/\off+xs.length*t.sz<=l.length/\rep F w (.ar xs.length t) xs ((l.drop off).take (xs.length*t.sz)))
   /\ (c.b=none->xs=[]):=by
 obtain ⟨blk,h1,h2⟩:=g.hr id c hc
 unfold arrAt at h
 rw [h1] at h
 cases blk with
 |dead=>cases h
 |deep _ _ _=>cases h
 |mapB _ _ _=>cases h
 |row u ys fr=>
  simp only at h
  split at h
  ·rename_i e;subst e;cases h
   obtain ⟨h3,h4,h5,h6⟩:=h2
   refine ⟨by rw [h3];rfl,fun b hb=>?_,fun e=>(h5 e).1⟩
   obtain ⟨⟨l,hl,hsz,hr⟩,_⟩:=h6 b hb
   have hm:xs.length*t.sz<=c.cap*t.sz:=Nat.mul_le_mul_right _ h4
   refine ⟨l,hl,by omega,?_⟩
   rw [rep_ar_iff]
   refine ⟨rfl,by simp;omega,fun i hi=>?_⟩
   have hm2:(i+1)*t.sz<=xs.length*t.sz:=Nat.mul_le_mul_right _ hi
   rw [Nat.add_mul] at hm2
   rw [seg_seg _ (show i*t.sz+t.sz<=xs.length*t.sz by omega),Nat.zero_add]
   exact hr i hi
  ·cases h
 |vars cs=>
  simp only at h
  split at h
  ·rename_i n t' ys hl
   cases h
   obtain ⟨⟨h3,hf⟩,b,hb,⟨l,hcl,hrel⟩,h6⟩:=h2
   obtain ⟨h7,h8⟩:=leafAt_rel _ _ _ _ hl hrel
   cases h8 with
   |dat _ _ _ hr=>
   have hlen:=(rep_ar_iff.1 hr).1
   have hsh:=leafAt_sh _ _ _ hl hf
   refine ⟨?_,fun b' hb'=>?_,fun e=>by rw [hb] at e;cases e⟩
   ·rw [h3];show shArr _ _=_;rw [hsh];simp [leafSh,hlen]
   ·rw [hb] at hb';cases hb'
    refine ⟨l,hcl,?_,?_⟩
    ·rw [hlen];exact h7
    ·rw [hlen];exact hr
  ·cases h
theorem arrV_rel {X H} (g:Good X F w β H) {id off:Nat} {t:Ty} {xs:List t.D} (h:arrV H id off=some ⟨t,xs⟩) {c:Conc} (hc:β id=some c) :
  arrSh c.sh off=some (xs.length,t)/\(c.b=none->xs=[]):=by
 unfold arrV at h
 split at h
 ·rename_i e ys hole hH
  split at h
  ·rename_i e0
   subst e0
   cases h
   obtain ⟨blk,h1,h2⟩:=g.hr id c hc
   rw [hH] at h1;cases h1
   obtain ⟨_,h3,_,h5,_⟩:=h2
   exact ⟨by rw [h3];rfl,fun e=>(h5 e).1⟩
  ·cases h
 ·obtain ⟨h1,_,h3⟩:=arrAt_rel g h hc
  exact ⟨h1,h3⟩
theorem cell_of_cellsAt {b:Nat} {l:List Value} (h:cellsAt w b=some l) (o:Nat):w.cell? ⟨b,o,none⟩=l[o]?:=by
 unfold cellsAt at h
 unfold World.cell?
 split at h
 ·rename_i c T f hc
  cases h
  simp [hc]
 ·cases h
theorem addr_add (b o n:Nat):(Addr.add ⟨b,o,none⟩ n)=⟨b,o+n,none⟩:=by
 unfold Addr.add;split<;>simp_all
theorem load_run {b o n:Nat} {vs:List Value} (h:At w b o n vs):(loadCells ⟨b,o,none⟩ n).run P w=.ok vs.toArray w:=by
 have hl:=h.len
 obtain ⟨l,h1,h2,rfl⟩:=h
 have:=run_loadCells_list (P:=P) w ⟨b,o,none⟩ ((l.drop o).take n) (fun j v hj=>by
  rw [addr_add,cell_of_cellsAt h1]
  rw [seg_get] at hj
  split at hj
  ·exact hj
  ·cases hj)
 rw [hl] at this
 exact this
theorem cell_run {b o:Nat} {v:Value} (h:At w b o 1 [v]):(load ⟨b,o,none⟩).run P w=.ok v w:=by
 obtain ⟨l,h1,h2,h3⟩:=h
 have:w.cell? ⟨b,o,none⟩=some v:=by
  rw [cell_of_cellsAt h1]
  have:=congrArg (fun z=>z[0]?) h3
  simp only [seg_get] at this
  simpa using this.symm
 simp [load,Sem.run,this]
theorem heap_setCell (b o:Nat) (v:Value) (b':Nat) (h:b'≠b):(w.setCell ⟨b,o,none⟩ v).heap[b']?=w.heap[b']?:=by
 simp only [World.setCell]
 rw [Array.getElem?_modify,if_neg (Ne.symm h)]
theorem size_setCell (a:Addr) (v:Value):(w.setCell a v).heap.size=w.heap.size:=by simp [World.setCell]
theorem cellsAt_setCell {b o:Nat} {v:Value} {l:List Value} (h:cellsAt w b=some l):cellsAt (w.setCell ⟨b,o,none⟩ v) b=some (l.set o v):=by
 unfold cellsAt at h ⊢
 split at h
 ·rename_i c T f hc
  cases h
  simp only [World.setCell]
  rw [Array.getElem?_modify,if_pos rfl,hc]
  simp
 ·cases h
theorem frozen_setCell (a:Addr) (v:Value) (b o:Nat):frz (w.setCell a v) ⟨b,o,none⟩=frz w ⟨b,o,none⟩:=by
 unfold frz World.setCell
 simp only [Array.getElem?_modify]
 by_cases e:a.block=b
 ·subst e
  rw [if_pos rfl]
  cases h:w.heap[a.block]? with
  |none=>simp
  |some x=>cases x<;>simp
 ·rw [if_neg e]
theorem store_run:∀ (us:List Value) (w:World) (b o i:Nat) (l:List Value),cellsAt w b=some l->o+i+us.length<=l.length->(∀ k,frz w ⟨b,o+i+k,none⟩=true->us.length<=k)->(∀ v∈us,v.oneCell'=true) ->
  ∃ w',(storeCells ⟨b,o,none⟩ us i).run P w=.ok () w'/\w'.heap.size=w.heap.size/\(∀ b',b'≠b->w'.heap[b']?=w.heap[b']?)/\cellsAt w' b=some (splice l (o+i) us) /\
   (∀ b' o',frz w' ⟨b',o',none⟩=frz w ⟨b',o',none⟩)/\w'.os=w.os/\w'.output=w.output
 | [],w,b,o,i,l,h,hle,hz,hv=>⟨w,by simp [storeCells,pure,Sem.run],rfl,fun _ _=>rfl,by rw [h];simp [splice],fun _ _=>rfl,rfl,rfl⟩
 |v::us,w,b,o,i,l,h,hle,hz,hv=>by
  have h1:cellsAt (w.setCell ⟨b,o+i,none⟩ v) b=some (l.set (o+i) v):=cellsAt_setCell h
  simp only [List.length_cons] at hle
  obtain ⟨w',a1,a2,a3,a4,a5,a6⟩:=store_run us (w.setCell ⟨b,o+i,none⟩ v) b o (i+1) _ h1 (by simp;omega) (fun k hk=>by
   rw [frozen_setCell,show o+(i+1)+k=o+i+(k+1) by omega] at hk
   have:=hz (k+1) hk
   simpa using this) (fun u hu=>hv u (by simp [hu]))
  refine ⟨w',?_,a2.trans (size_setCell _ _),fun b' hb'=>(a3 b' hb').trans (heap_setCell _ _ _ _ hb'),?_,fun b' o'=>(a5 b' o').trans (frozen_setCell _ _ _ _),a6⟩
  ·have hc:w.cell? ⟨b,o+i,none⟩=some (l[o+i]'(by omega)):=by rw [cell_of_cellsAt h,List.getElem?_eq_getElem]
   have hf:frz w ⟨b,o+i,none⟩=false:=by
    cases hb:frz w ⟨b,o+i,none⟩
    ·rfl
    ·have:=hz 0 (by simpa using hb);simp at this
   have hf:=frz_false hf
   simp only [storeCells,Sem.run_bind,addr_add]
   rw [run_store P w _ v _ (hv v (by simp)),hc]
   simp only [hf,Bool.false_eq_true,if_false,Result.andThen_ok]
   exact a1
  ·rw [a4]
   congr 1
   apply List.ext_getElem?
   intro j
   rw [splice_get _ _ _ (by simp;omega),splice_get _ _ _ (by simp;omega)]
   simp only [List.length_cons]
   by_cases c1:j<o+i
   ·rw [if_pos c1,if_pos (by omega),List.getElem?_set_ne (by omega)]
   ·rw [if_neg c1]
    by_cases c2:j=o+i
    ·subst c2
     rw [if_pos (by omega),if_pos (by omega)]
     simp
     rw [List.getElem?_set_self (by omega)]
    ·rw [if_neg (by omega)]
     by_cases c3:j<o+(i+1)+us.length
     ·rw [if_pos c3,if_pos (by omega),show j - (o+i)=(j - (o+(i+1)))+1 by omega,List.getElem?_cons_succ]
     ·rw [if_neg c3,if_neg (by omega),List.getElem?_set_ne (by omega)]
theorem rep_one:∀ (t:Ty) (x:t.D) (vs:List Value),rep F w t x vs->∀ v∈vs,v.oneCell'=true
 |.int _,_,_,h=>by simp only [rep] at h;subst h;simp [Value.oneCell']
 |.bool,_,_,h=>by simp only [rep] at h;subst h;simp [Value.oneCell']
 |.str,_,_,h=>by simp only [rep] at h;subst h;simp [Value.oneCell']
 |.sl _,_,_,h=>by simp only [rep] at h;obtain ⟨A,c,rfl,_⟩:=h;simp [Value.oneCell']
 |.un,_,_,h=>by simp only [rep] at h;subst h;simp
 |.pr a b,_,_,h=>by
  simp only [rep] at h
  obtain ⟨us,ws,rfl,h1,h2⟩:=h
  intro v hv
  rcases List.mem_append.1 hv with hv|hv
  ·exact rep_one a _ _ h1 v hv
  ·exact rep_one b _ _ h2 v hv
 |.ar n e,xs,vs,h=>by
  intro v hv
  obtain ⟨h1,h2,h3⟩:=rep_ar_iff.1 h
  obtain ⟨k,hk,rfl⟩:=List.getElem_of_mem hv
  by_cases hz:e.sz=0
  ·rw [hz] at h2;simp at h2;subst h2;simp at hk
  ·have hlt:k / e.sz<xs.length:=by
    rw [h1];exact Nat.div_lt_of_lt_mul (by rw [h2,Nat.mul_comm] at hk;exact hk)
   refine rep_one e _ _ (h3 _ hlt) _ ?_
   apply List.mem_of_getElem? (i:=k % e.sz)
   rw [seg_get,if_pos (Nat.mod_lt _ (by omega)),Nat.mul_comm,Nat.div_add_mod]
   exact List.getElem?_eq_getElem hk
mutual
theorem RelC.oneC:∀ {a vs},RelC F w β a vs->∀ v∈vs,v.oneCell'=true
 |_,_,.dat t x vs h=>rep_one t x vs h
 |_,_,.nilS=>by simp [Value.oneCell']
 |_,_,.nilP=>by simp [Value.oneCell']
 |_,_,.nilF=>by simp [Value.oneCell']
 |_,_,.full ..=>by simp [Value.oneCell']
 |_,_,.sub ..=>by simp [Value.oneCell']
 |_,_,.ptr ..=>by simp [Value.oneCell']
 |_,_,.fptr ..=>by simp [Value.oneCell']
 |_,_,.nz ..=>by simp [Value.oneCell']
 |_,_,.mpn ..=>by simp [Value.oneCell']
 |_,_,.mps ..=>by simp [Value.oneCell']
 |_,_,.fn ..=>by simp [Value.oneCell']
 |_,_,.mref ..=>by simp [Value.oneCell']
 |_,_,.agg xs vs h=>RelCs.oneC h
theorem RelCs.oneC:∀ {a vs},RelCs F w β a vs->∀ v∈vs,v.oneCell'=true
 |_,_,.nil=>by simp
 |_,_,.cons a l us vs h1 h2 h3=>fun v hv=>by
  rcases List.mem_append.1 hv with hv|hv
  ·exact RelC.oneC h1 v hv
  ·exact RelCs.oneC h3 v hv
end
end
end
section
section
variable {P:Program} {F:Nat->Prop} {w:World} {β:Nat->Option Conc}
theorem info_of_und {T:TypeId} {d:TypeDesc} (h:P.underlying T=some d):∃ i,P.info? T=some i:=by
 unfold Program.underlying at h
 split at h
 ·exact ⟨_,by assumption⟩
 ·exact ⟨_,by assumption⟩
 ·cases h
theorem cellsOf_info {T:TypeId} {i:TypeInfo} (h:P.info? T=some i):P.cellsOf T=i.size:=by simp [Program.cellsOf,h]
theorem sizeOf_run {T:TypeId} {i:TypeInfo} (h:P.info? T=some i):(sizeOf T).run P w=.ok (P.cellsOf T) w:=by
 simp [sizeOf,typeInfo,program,h,cellsOf_info h,Sem.run,pure]
theorem isAgg_run {T:TypeId} {d:TypeDesc} (h:P.underlying T=some d):(isAgg T).run P w=.ok (isAggM P T) w:=by
 unfold isAgg isAggM
 simp only [Sem.run_bind,und h,Result.andThen_ok,h]
 cases d<;>simp [pure,Sem.run]
theorem und_of_tyOf {d:Nat} {T:TypeId} {t:Ty} (h:tyOf P d T=some t):∃ u,P.underlying T=some u:=by
 cases d with
 |zero=>cases h
 |succ d=>
  unfold tyOf at h
  split at h
  case h_7=>cases h
  all_goals exact ⟨_,by assumption⟩
theorem many_of_tyOf {d:Nat} {T:TypeId} {t:Ty} (h:tyOf P d T=some t) (x:t.D):isMany (.dat t x)=isAggM P T:=by
 cases d with
 |zero=>cases h
 |succ d=>
  unfold tyOf at h
  unfold isAggM
  split at h
  ·rename_i hu;cases h;rw [hu];rfl
  ·rename_i hu;cases h;rw [hu];rfl
  ·rename_i hu;cases h;rw [hu];rfl
  ·rename_i hu
   rw [hu]
   cases hq:tyOf P d _ with
   |none=>rw [hq] at h;cases h
   |some q=>rw [hq] at h;cases h;rfl
  ·rename_i hu
   rw [hu]
   cases hq:tyOf P d _ with
   |none=>rw [hq] at h;cases h
   |some q=>rw [hq] at h;cases h;rfl
  ·rename_i fs hu
   rw [hu]
   cases hl:fs.toList with
   |nil=>rw [hl] at h;cases h;rfl
   |cons f l=>
    rw [hl] at h
    simp only [fieldsTy] at h
    cases hq:tyOf P d f.type with
    |none=>rw [hq] at h;cases h
    |some q=>
     rw [hq] at h
     simp only [zb] at h
     cases hr:fieldsTy (tyOf P d) l with
     |none=>rw [hr] at h;cases h
     |some r=>rw [hr] at h;cases h;rfl
  ·cases h
theorem tyC_some {T:TypeId} {t:Ty} (h:tyC P T=some t):tyOf P TD T=some t/\(∃ i,P.info? T=some i)/\P.cellsOf T=t.sz/\(∃ u,P.underlying T=some u)/\∀ x,isMany (.dat t x)=isAggM P T:=by
 unfold tyC at h
 split at h
 ·rename_i t' i h1 h2
  split at h
  ·rename_i hs
   cases h
   exact ⟨h1,⟨i,h2⟩,by rw [cellsOf_info h2];exact hs,und_of_tyOf h1,many_of_tyOf h1⟩
  ·cases h
 ·cases h
theorem one_of_rep {t:Ty} {x:t.D} {vs:List Value} (h:rep F w t x vs) (hm:isMany (.dat t x)=false):∃ v,vs=[v]:=by
 have hl:=rep_len _ _ _ h
 cases t<;>simp [isMany] at hm<;>simp only [Ty.sz] at hl<;>exact List.length_eq_one_iff.1 hl
theorem loadVar_run {T:TypeId} {d:TypeDesc} (hT:P.underlying T=some d) {b o:Nat} {vs:List Value} (hA:At w b o (P.cellsOf T) vs) (h1:isAggM P T=false->∃ v,vs=[v]) :
  ∃ r,(loadVar T ⟨b,o,none⟩).run P w=.ok r w/\(isAggM P T=true->r=.agg vs.toArray)/\(isAggM P T=false->vs=[r]):=by
 obtain ⟨i,hi⟩:=info_of_und hT
 unfold loadVar
 simp only [Sem.run_bind,isAgg_run hT,Result.andThen_ok]
 cases hm:isAggM P T
 ·obtain ⟨v,rfl⟩:=h1 hm
  refine ⟨v,?_,by simp,by simp⟩
  have hl:=hA.len
  simp only [Bool.false_eq_true,if_false]
  rw [←hl] at hA
  exact cell_run hA
 ·refine ⟨.agg vs.toArray,?_,by simp,by simp⟩
  simp only [if_true,Sem.run_bind,sizeOf_run hi,Result.andThen_ok,load_run hA,pure,Sem.run]
theorem At.sub {b off n:Nat} {vs:List Value} (h:At w b off n vs) {k m:Nat} (hk:k+m<=n):At w b (off+k) m ((vs.drop k).take m):=by
 obtain ⟨l,h1,h2,rfl⟩:=h
 exact ⟨l,h1,by omega,seg_seg _ hk⟩
theorem elem_at {X H} (g:Good X F w β H) {id:Nat} {p:Pos} {i:Int} {o:Nat} {rest:List (Int×Nat)} (hp:p.path=(i,o)::rest) {t:Ty} {xs:List t.D} (h:arrAt H id p.off=some ⟨t,xs⟩)
  {c:Conc} (hc:β id=some c) {b:Nat} (hb:c.b=some b) {k:Nat} (hk:placeOf c.sh p=some k) :
  (0<=i/\i<xs.length)/\∃ l k',cellsAt w b=some l/\innerAt t o rest=some k'/\k=p.off+i.toNat*t.sz+k'/\p.off+(i.toNat*t.sz+t.sz)<=l.length/\rep F w t (xs.getD i.toNat t.dflt) ((l.drop (p.off+i.toNat*t.sz)).take t.sz):=by
 obtain ⟨h1,h2,h3⟩:=arrAt_rel g h hc
 obtain ⟨l,hl,hle,hr⟩:=h2 b hb
 unfold placeOf at hk
 rw [hp] at hk
 simp only [h1] at hk
 split at hk
 ·rename_i hin
  cases hi:innerAt t o rest with
  |none=>rw [hi] at hk;cases hk
  |some k'=>
   rw [hi] at hk;cases hk
   obtain ⟨h4,h5⟩:=ar_elem hr (i:=i.toNat) (by omega)
   have hm:(i.toNat+1)*t.sz<=xs.length*t.sz:=Nat.mul_le_mul_right _ (by omega)
   rw [Nat.add_mul] at hm
   rw [seg_seg _ (by omega)] at h5
   exact ⟨hin,l,k',hl,rfl,rfl,by omega,h5⟩
 ·cases hk
theorem asVal_rel {T:TypeId} {d:TypeDesc} (hT:P.underlying T=some d) {l:List AV} {v:AV} (h:asVal P T l=some v) {vs:List Value} (hr:RelCs F w β l vs) :
  (isAggM P T=false->∃ x,vs=[x])/\∀ r,(isAggM P T=true->r=.agg vs.toArray)->(isAggM P T=false->vs=[r])->RelV F w β v r:=by
 unfold asVal at h
 split at h
 ·rename_i ha
  cases h
  have hm:isAggM P T=true:=by
   unfold isAggT at ha;unfold isAggM
   split at ha
   ·rename_i hq;rw [hq]
   ·cases ha
  refine ⟨(fun e=>by rw [hm] at e;exact absurd e (by simp)),fun r h1 _=>?_⟩
  rw [h1 hm]
  exact .many _ _ rfl (.agg _ _ hr)
 ·split at h
  ·rename_i a
   split at h
   ·rename_i hm
    cases h
    cases hr with
    |cons _ _ us vs' h1 h2 h3=>
    cases h3
    rw [List.append_nil]
    refine ⟨fun e=>?_,fun r h4 h5=>?_⟩
    ·rw [e] at hm
     cases h1 with
     |dat t x _ h=>exact one_of_rep h hm
     |agg _ _ h=>simp [isMany] at hm
     |_=>exact ⟨_,rfl⟩
    ·cases e:isAggM P T
     ·have:=h5 e
      subst this
      exact .one _ _ (by rw [hm,e]) h1
     ·have:=h4 e
      rw [this]
      exact .many _ _ (by rw [hm,e]) h1
   ·cases h
  ·cases h
theorem RelV.of_tyC {T:TypeId} {u:Ty} (h:tyC P T=some u) {y:u.D} {vs:List Value} (hr:rep F w u y vs) :
  (isAggM P T=false->∃ x,vs=[x])/\∀ r,(isAggM P T=true->r=.agg vs.toArray)->(isAggM P T=false->vs=[r])->RelV F w β (.dat u y) r:=by
 obtain ⟨h1,h2,h3,h4,h5⟩:=tyC_some h
 refine ⟨fun e=>one_of_rep hr (by rw [h5,e]),fun r h6 h7=>RelV.ofDat hr (fun e=>h6 (by rw [←h5 y];exact e)) (fun e=>h7 (by rw [←h5 y];exact e))⟩
theorem sim_load {X H} (g:Good X F w β H) {T:TypeId} {a v:AV} {u:Value} (h:exLoad P T H a=some v) (ha:RelV F w β a u) :
  ∃ r,(Instr.loadAt T u).run P w=.ok r w/\RelV F w β v r:=by
 unfold exLoad at h
 split at h
 ·
  rename_i t x
  obtain ⟨b,o,us,rfl,hF,hA,hr⟩:=ha.fptr_inv
  cases hT:tyC P T with
  |none=>rw [hT] at h;cases h
  |some q=>
   rw [hT] at h
   simp only [zb] at h
   cases hy:cast' (b:=q) x with
   |none=>rw [hy] at h;cases h
   |some y=>
    rw [hy] at h;cases h
    obtain ⟨rfl,hr'⟩:=cast'_rep hy hr
    obtain ⟨h1,h2,h3,⟨d,h4⟩,h5⟩:=tyC_some hT
    obtain ⟨h6,h7⟩:=RelV.of_tyC (β:=β) hT hr'
    rw [←h3] at hA
    obtain ⟨r,hrun,hr1,hr2⟩:=loadVar_run h4 hA h6
    exact ⟨r,by simpa [Instr.loadAt,Instr.sureAddr,pure,Sem.run] using hrun,h7 r hr1 hr2⟩
 ·rename_i id p
  obtain ⟨c,b,o,rfl,hc,hb,ho⟩:=ha.ptr_inv
  split at h
  ·rename_i hp
   split at h
   ·rename_i cs hH
    split at h
    ·rename_i hhas
     cases hu:P.underlying T with
     |none=>simp [hasT,hu] at hhas
     |some d=>
     cases ht:takeL cs p.off (P.cellsOf T) with
     |none=>rw [ht] at h;cases h
     |some l=>
      rw [ht] at h
      simp only [zb] at h
      obtain ⟨blk,hb1,hb2⟩:=g.hr id c hc
      rw [hH] at hb1;cases hb1
      obtain ⟨_,b',hb',⟨cl,hcl,hrel⟩,_⟩:=hb2
      rw [hb] at hb';cases hb'
      obtain ⟨h1,h2⟩:=takeL_rel _ _ _ _ _ ht hrel
      have hoo:o=p.off:=by unfold placeOf at ho;rw [hp] at ho;cases ho;rfl
      subst hoo
      obtain ⟨h3,h4⟩:=asVal_rel hu h h2
      obtain ⟨r,hrun,hr1,hr2⟩:=loadVar_run hu (b:=b) (o:=p.off) ⟨cl,hcl,h1,rfl⟩ h3
      exact ⟨r,by simpa [Instr.loadAt,Instr.sureAddr,pure,Sem.run] using hrun,h4 r hr1 hr2⟩
    ·cases h
   ·cases h
  ·rename_i i o' rest hp
   split at h
   ·rename_i t xs hA
    cases hT:tyC P T with
    |none=>rw [hT] at h;cases h
    |some q=>
     rw [hT] at h
     simp only [zb] at h
     cases hy:getP rest t (xs.getD i.toNat t.dflt) o' q with
     |none=>rw [hy] at h;cases h
     |some y=>
      rw [hy] at h;cases h
      obtain ⟨hin,l,k',hl,hk',rfl,hle,hr⟩:=elem_at g hp hA hc hb ho
      obtain ⟨h8,h9⟩:=getP_rep _ _ _ _ _ _ _ _ hr hy hk'
      have hlen:=rep_len _ _ _ hr
      rw [seg_seg _ (by omega)] at h9
      obtain ⟨h1,h2,h3,⟨d,h4⟩,h5⟩:=tyC_some hT
      obtain ⟨h6,h7⟩:=RelV.of_tyC (β:=β) hT h9
      obtain ⟨r,hrun,hr1,hr2⟩:=loadVar_run h4 (b:=b) (o:=p.off+i.toNat*t.sz+k') ⟨l,hl,by omega,by rw [h3]⟩ h6
      exact ⟨r,by simpa [Instr.loadAt,Instr.sureAddr,pure,Sem.run] using hrun,h7 r hr1 hr2⟩
   ·cases h
 ·cases h
theorem fieldOf_some {S:TypeId} {f:Nat} {fd:Field} (h:fieldOf P S f=some fd):∃ fs,P.underlying S=some (.struct fs)/\fs[f]?=some fd:=by
 unfold fieldOf at h
 split at h
 ·exact ⟨_,by assumption,h⟩
 ·cases h
theorem placeOf_add {sh:Shape} {p:Pos} {o n:Nat} (h:placeOf sh p=some o):placeOf sh (p.add n)=some (o+n):=by
 obtain ⟨off,path⟩:=p
 have hin:∀ (l:List (Int×Nat)) (t:Ty) (o0:Nat) (i:Int) (q k:Nat),innerAt t o0 (l++[(i,q)])=some k->innerAt t o0 (l++[(i,q+n)])=some (k+n):=by
  intro l
  induction l with
  |nil=>
   intro t o0 i q k h
   simp only [List.nil_append,innerAt] at h ⊢
   split at h
   ·split at h
    ·rename_i hh;cases h;rw [if_pos hh];simp;omega
    ·cases h
   ·cases h
  |cons x l ih=>
   intro t o0 i q k h
   obtain ⟨j,o'⟩:=x
   simp only [List.cons_append,innerAt] at h ⊢
   split at h
   ·split at h
    ·rename_i hh
     rw [if_pos hh]
     cases hk:innerAt _ o' (l++[(i,q)]) with
     |none=>rw [hk] at h;cases h
     |some k'=>rw [hk] at h;cases h;rw [ih _ _ _ _ _ hk];simp;omega
    ·cases h
   ·cases h
 unfold Pos.add
 cases hr:path.reverse with
 |nil=>
  have:path=[]:=by simpa using hr
  subst this
  simp only [placeOf] at h ⊢
  cases h;rfl
 |cons x r=>
  obtain ⟨i,q⟩:=x
  have hp:path=r.reverse++[(i,q)]:=by
   have:=congrArg List.reverse hr;simpa using this
  subst hp
  simp only [List.reverse_cons]
  cases hrr:r.reverse with
  |nil=>
   rw [hrr] at h
   simp only [List.nil_append,placeOf] at h ⊢
   split at h
   ·split at h
    ·rename_i hh
     rw [if_pos hh]
     simp only [innerAt,Option.map_some] at h ⊢
     cases h;simp;omega
    ·cases h
   ·cases h
  |cons y l=>
   rw [hrr] at h
   obtain ⟨j,o'⟩:=y
   simp only [List.cons_append,placeOf] at h ⊢
   split at h
   ·split at h
    ·rename_i hh
     rw [if_pos hh]
     cases hk:innerAt _ o' (l++[(i,q)]) with
     |none=>rw [hk] at h;cases h
     |some k'=>rw [hk] at h;cases h;rw [hin _ _ _ _ _ _ hk];simp;omega
    ·cases h
   ·cases h
theorem sim_fieldAddr {S:TypeId} {f:Nat} {a v:AV} {u:Value} (h:exFieldAddr P S a f=some v) (ha:RelV F w β a u) :
  ∃ r,(Instr.fieldAt S u f).run P w=.ok r w/\RelV F w β v r:=by
 unfold exFieldAddr at h
 split at h
 ·cases h
 rename_i fd hfd
 obtain ⟨fs,hS,hfs⟩:=fieldOf_some hfd
 split at h
 ·cases h
 rename_i hsz
 have hinfo:∃ i,P.info? fd.type=some i:=by
  cases hi:P.info? fd.type with
  |none=>exact absurd (by simp [Program.cellsOf,hi]) hsz
  |some i=>exact ⟨i,rfl⟩
 obtain ⟨i,hi⟩:=hinfo
 have hplace:∀ b o,(fieldPlace ⟨b,o,none⟩ fd).run P w=.ok ⟨b,o+fd.offset,none⟩ w:=fun b o=>by
  unfold fieldPlace
  simp only [Sem.run_bind,sizeOf_run hi,Result.andThen_ok,if_neg hsz,pure,Sem.run,addr_add]
 have hrun:∀ b o,(Instr.fieldAt S (.pointer (some ⟨b,o,none⟩)) f).run P w=.ok (.pointer (some ⟨b,o+fd.offset,none⟩)) w:=fun b o=>by
  unfold Instr.fieldAt
  simp only [Sem.run_bind,und hS,Result.andThen_ok,hfs,Instr.sureAddr,pure,Sem.run,hplace]
 split at h
 ·rename_i id p
  cases h
  obtain ⟨c,b,o,rfl,hc,hb,ho⟩:=ha.ptr_inv
  exact ⟨_,hrun b o,.one _ _ rfl (.ptr _ _ c b _ hc hb (placeOf_add ho))⟩
 ·rename_i t x
  obtain ⟨b,o,us,rfl,hF,hA,hr⟩:=ha.fptr_inv
  cases hT:tyC P fd.type with
  |none=>rw [hT] at h;cases h
  |some q=>
   rw [hT] at h
   simp only [zb] at h
   cases hy:proj t x fd.offset q with
   |none=>rw [hy] at h;cases h
   |some y=>
    rw [hy] at h;cases h
    obtain ⟨h1,h2⟩:=proj_rep _ _ _ _ _ _ hr hy
    have hl:=hA.len
    exact ⟨_,hrun b o,.one _ _ rfl (.fptr _ _ b _ _ hF (hA.sub (by omega)) h2)⟩
 ·cases h
end
end
section
section
variable {P:Program} {F:Nat->Prop} {w:World} {β:Nat->Option Conc}
theorem elemIs_some {T:TypeId} {t:Ty} (h:elemIs P T t=true):tyC P T=some t:=by
 unfold elemIs at h
 split at h
 ·rename_i q hq;rw [hq];simp at h;rw [h]
 ·cases h
theorem part_run {T:TypeId} {d:TypeDesc} (hT:P.underlying T=some d) {vs:List Value} {off:Nat} (hle:off+P.cellsOf T<=vs.length) (h1:isAggM P T=false->P.cellsOf T=1) :
  ∃ r,(part T vs.toArray off).run P w=.ok r w/\(isAggM P T=true->r=.agg ((vs.drop off).take (P.cellsOf T)).toArray)/\(isAggM P T=false->(vs.drop off).take (P.cellsOf T)=[r]):=by
 obtain ⟨i,hi⟩:=info_of_und hT
 unfold part
 simp only [Sem.run_bind,isAgg_run hT,Result.andThen_ok]
 cases hm:isAggM P T
 ·have h1':=h1 hm
  have hlt:off<vs.length:=by omega
  refine ⟨vs[off],?_,by simp,fun _=>?_⟩
  ·simp [hlt,pure,Sem.run]
  ·rw [h1']
   apply List.ext_getElem?
   intro j
   rw [seg_get]
   cases j with
   |zero=>simp [hlt]
   |succ j=>rw [if_neg (by omega)];simp
 ·refine ⟨.agg ((vs.drop off).take (P.cellsOf T)).toArray,?_,by simp,by simp⟩
  simp only [if_true,Sem.run_bind,sizeOf_run hi,Result.andThen_ok,pure,Sem.run]
  congr 2
  simp [List.extract_toArray]
theorem one_of_many {t:Ty} {x:t.D} (h:isMany (.dat t x)=false):t.sz=1:=by
 cases t<;>simp [isMany] at h<;>rfl
theorem bytes_get (s:List UInt8) (i:Nat):((ByteArray.mk s.toArray)[i]?:Option UInt8)=s[i]?:=by
 rw [getElem?_def,getElem?_def]
 split
 ·rename_i h
  have h':i<s.length:=by simpa [ByteArray.size] using h
  rw [dif_pos h'];simp [ByteArray.getElem_eq_getElem_data]
 ·rename_i h
  have h':¬ i<s.length:=by simpa [ByteArray.size] using h
  rw [dif_neg h']
theorem sim_index {T:TypeId} {a i v:AV} {u ui:Value} (h:exIndex P T a i=some v) (ha:RelV F w β a u) (hi:RelV F w β i ui) :
  ∃ r,(Instr.index T u ui).run P w=.ok r w/\RelV F w β v r:=by
 unfold exIndex at h
 split at h
 ·rename_i k n
  rw [hi.int_inv]
  split at h
  ·rename_i s hT
   split at h
   ·rename_i hin
    cases h
    rw [ha.str_inv]
    refine ⟨.int .u8 ((s.getD (toI k n).toNat (0:UInt8)).toNat:Int),?_,RelV.int rfl⟩
    unfold Instr.index
    simp only [Sem.run_bind,asIntOf,pure,Sem.run,Result.andThen_ok,und hT]
    rw [if_pos hin.1,bytes_get,List.getElem?_eq_getElem (by omega)]
    simp only [List.getD]
    rw [List.getElem?_eq_getElem (by omega)]
    rfl
   ·cases h
  ·rename_i len e m t xs hT
   split at h
   ·rename_i hel
    obtain ⟨hel,rfl⟩:=hel
    split at h
    ·rename_i hin
     cases h
     have hel:=elemIs_some hel
     obtain ⟨h1,⟨inf,h2⟩,h3,⟨d,h4⟩,h5⟩:=tyC_some hel
     rcases ha.dat_inv with ⟨hm,_⟩|⟨_,cs,rfl,hr⟩
     ·simp [isMany] at hm
     obtain ⟨h6,h7⟩:=ar_elem hr (i:=(toI k n).toNat) (by omega)
     rw [Nat.add_mul] at h6
     obtain ⟨r,hr1,hr2,hr3⟩:=part_run (P:=P) (w:=w) h4 (vs:=cs) (off:=(toI k n).toNat*t.sz) (by omega) (fun e=>by rw [h3];exact one_of_many (x:=t.dflt) (by rw [h5];exact e))
     refine ⟨r,?_,?_⟩
     ·unfold Instr.index
      simp only [Sem.run_bind,asIntOf,pure,Sem.run,Result.andThen_ok,und hT]
      rw [if_pos hin]
      simp only [Sem.run_bind,sizeOf_run h2,Result.andThen_ok,h3]
      exact hr1
     ·rw [h3] at hr2 hr3
      exact (RelV.of_tyC hel h7).2 r hr2 hr3
    ·cases h
   ·cases h
  ·cases h
 ·cases h
theorem sim_field {S:TypeId} {f:Nat} {a v:AV} {u:Value} (h:exField P S a f=some v) (ha:RelV F w β a u) :
  ∃ r,(Instr.field S u f).run P w=.ok r w/\RelV F w β v r:=by
 unfold exField at h
 split at h
 ·cases h
 rename_i fd hfd
 obtain ⟨fs,hS,hfs⟩:=fieldOf_some hfd
 have hrun:∀ cs:List Value,(Instr.field S (.agg cs.toArray) f).run P w=(part fd.type cs.toArray fd.offset).run P w:=fun cs=>by
  unfold Instr.field
  simp only [Sem.run_bind,und hS,Result.andThen_ok,hfs,asAgg,pure,Sem.run]
 split at h
 ·rename_i t x
  split at h
  ·rename_i hmany
   cases hT:tyC P fd.type with
   |none=>rw [hT] at h;cases h
   |some q=>
    rw [hT] at h
    simp only [zb] at h
    cases hy:proj t x fd.offset q with
    |none=>rw [hy] at h;cases h
    |some y=>
     rw [hy] at h;cases h
     rcases ha.dat_inv with ⟨hm,hr⟩|⟨_,cs,rfl,hr⟩
     ·rw [hmany] at hm;cases hm
     ·obtain ⟨h1,h2⟩:=proj_rep _ _ _ _ _ _ hr hy
      obtain ⟨h3,⟨inf,h4⟩,h5,⟨d,h6⟩,h7⟩:=tyC_some hT
      obtain ⟨r,hr1,hr2,hr3⟩:=part_run (P:=P) (w:=w) h6 (vs:=cs) (off:=fd.offset) (by omega) (fun e=>by rw [h5];exact one_of_many (x:=q.dflt) (by rw [h7];exact e))
      rw [h5] at hr2 hr3
      exact ⟨r,by rw [hrun];exact hr1,(RelV.of_tyC hT h2).2 r hr2 hr3⟩
  ·cases h
 ·rename_i xs
  split at h
  ·rename_i hhas
   obtain ⟨vs,rfl,hr⟩:=ha.agg_inv
   cases hu:P.underlying fd.type with
   |none=>simp [hasT,hu] at hhas
   |some d=>
   cases ht:takeL xs fd.offset (P.cellsOf fd.type) with
   |none=>rw [ht] at h;cases h
   |some l=>
    rw [ht] at h
    simp only [zb] at h
    obtain ⟨h1,h2⟩:=takeL_rel _ _ _ _ _ ht hr
    obtain ⟨h3,h4⟩:=asVal_rel hu h h2
    obtain ⟨r,hr1,hr2,hr3⟩:=part_run (P:=P) (w:=w) hu (vs:=vs) (off:=fd.offset) h1 (fun e=>by
     obtain ⟨x,hx⟩:=h3 e
     have:=congrArg List.length hx
     simp at this;omega)
    exact ⟨r,by rw [hrun];exact hr1,h4 r hr2 hr3⟩
  ·cases h
 ·cases h
theorem placeOf_elem {sh:Shape} {off:Nat} {n:Nat} {t:Ty} (h:arrSh sh off=some (n,t)) {i:Int} (h0:0<=i) (h1:i<n) :
  placeOf sh ⟨off,[(i,0)]⟩=some (off+i.toNat*t.sz):=by
 simp only [placeOf,h]
 rw [if_pos ⟨h0,h1⟩];rfl
theorem innerAt_push:∀ (path:List (Int×Nat)) (t:Ty) (o k n:Nat) (e:Ty) (i:Int),innerAt t o path=some k->arrIn t o path=some (n,e)->0<=i->i<n ->
  innerAt t o (path++[(i,0)])=some (k+i.toNat*e.sz)
 | [],t,o,k,n,e,i,h,ha,h0,h1=>by
  simp only [innerAt] at h
  cases h
  simp only [arrIn] at ha
  simp only [List.nil_append,innerAt,ha]
  rw [if_pos ⟨h0,h1⟩];rfl
 |(j,o')::rest,t,o,k,n,e,i,h,ha,h0,h1=>by
  simp only [innerAt,arrIn] at h ha
  simp only [List.cons_append,innerAt]
  split at h
  ·rename_i m e' hT
   rw [hT] at ha
   simp only at ha
   split at h
   ·rename_i hin
    rw [if_pos hin]
    cases hk:innerAt e' o' rest with
    |none=>rw [hk] at h;cases h
    |some k'=>
     rw [hk] at h;cases h
     rw [innerAt_push rest e' o' k' n e i hk ha h0 h1]
     simp;omega
   ·cases h
  ·cases h
theorem placeOf_push {sh:Shape} {off n0:Nat} {t:Ty} {i0:Int} {o0:Nat} {rest:List (Int×Nat)} {k n:Nat} {e:Ty} {i:Int} (h:placeOf sh ⟨off,(i0,o0)::rest⟩=some k)
  (hs:arrSh sh off=some (n0,t)) (ha:arrIn t o0 rest=some (n,e)) (h0:0<=i) (h1:i<n):placeOf sh ⟨off,(i0,o0)::rest++[(i,0)]⟩=some (k+i.toNat*e.sz):=by
 simp only [placeOf,hs,List.cons_append] at h ⊢
 split at h
 ·rename_i hin
  rw [if_pos hin]
  cases hk:innerAt t o0 rest with
  |none=>rw [hk] at h;cases h
  |some k'=>
   rw [hk] at h;cases h
   rw [innerAt_push rest t o0 k' n e i hk ha h0 h1]
   simp;omega
 ·cases h
theorem arrLeaf_rel {X H} (g:Good X F w β H) {id off:Nat} {n:Nat} {t:Ty} (h:arrLeaf H id off=some (n,t)) {c:Conc} (hc:β id=some c):arrSh c.sh off=some (n,t):=by
 obtain ⟨blk,h1,h2⟩:=g.hr id c hc
 unfold arrLeaf at h
 rw [h1] at h
 cases blk with
 |dead=>cases h
 |row _ _ _=>cases h
 |deep _ _ _=>cases h
 |mapB _ _ _=>cases h
 |vars cs=>
  simp only at h
  split at h
  ·rename_i m t' xs hl
   cases h
   obtain ⟨⟨h3,hf⟩,_⟩:=h2
   rw [h3]
   show shArr _ _=_
   rw [leafAt_sh _ _ _ hl hf];rfl
  ·cases h
theorem slice_elem {t:Ty} {xs:List t.D} {v:Value} (h:rep F w (.sl t) xs [v]):∃ A c,v=.slice A xs.length c/\xs.length<=c /\
  (xs.length=0\/∃ b off,A=some ⟨b,off,none⟩/\F b/\∀ i (h:i<xs.length),∃ us,At w b (off+i*t.sz) t.sz us/\rep F w t xs[i] us):=by
 simp only [rep] at h
 obtain ⟨A,c,h1,h2,h3⟩:=h
 injection h1 with h1 _
 exact ⟨A,c,h1,h2,h3⟩
theorem sim_indexAddr {X H} (g:Good X F w β H) {T:TypeId} {a i v:AV} {u ui:Value} (h:exIndexAddr P T H a i=some v) (ha:RelV F w β a u) (hi:RelV F w β i ui) :
  ∃ r,(Instr.indexAt T u ui).run P w=.ok r w/\RelV F w β v r:=by
 unfold exIndexAddr at h
 split at h
 ·rename_i k n
  rw [hi.int_inv]
  split at h
  ·rename_i len e hT
   split at h
   ·
    rename_i id p
    obtain ⟨c,b,o,rfl,hc,hb,ho⟩:=ha.ptr_inv
    simp only at h
    split at h
    ·rename_i m t har
     split at h
     ·rename_i hel
      obtain ⟨hel,rfl⟩:=hel
      split at h
      ·rename_i hin
       cases h
       have hel:=elemIs_some hel
       obtain ⟨h1,⟨inf,h2⟩,h3,⟨d,h4⟩,h5⟩:=tyC_some hel
       refine ⟨.pointer (some ⟨b,o+(toI k n).toNat*t.sz,none⟩),?_,?_⟩
       ·unfold Instr.indexAt
        simp only [Sem.run_bind,asIntOf,pure,Sem.run,Result.andThen_ok,und hT,Instr.sureAddr]
        rw [if_pos hin]
        simp only [Sem.run_bind,sizeOf_run h2,Result.andThen_ok,pure,Sem.run,addr_add,h3]
       ·refine .one _ _ rfl (.ptr _ _ c b _ hc hb ?_)
        obtain ⟨off,path⟩:=p
        cases path with
        |nil=>
         simp only at har
         have:=arrLeaf_rel g har hc
         simp only [placeOf] at ho
         cases ho
         exact placeOf_elem this hin.1 hin.2
        |cons x rest=>
         obtain ⟨i0,o0⟩:=x
         simp only at har
         split at har
         ·rename_i t0 xs0 hA
          obtain ⟨hs,_⟩:=arrAt_rel g hA hc
          exact placeOf_push ho hs har hin.1 hin.2
         ·cases har
      ·cases h
     ·cases h
    ·cases h
   ·rename_i m t xs
    split at h
    ·rename_i hel
     obtain ⟨hel,rfl⟩:=hel
     split at h
     ·rename_i hin
      cases h
      have hel:=elemIs_some hel
      obtain ⟨h1,⟨inf,h2⟩,h3,⟨d,h4⟩,h5⟩:=tyC_some hel
      obtain ⟨b,o,us,rfl,hF,hA,hr⟩:=ha.fptr_inv
      obtain ⟨h6,h7⟩:=ar_elem hr (i:=(toI k n).toNat) (by omega)
      have hl:=hA.len
      rw [Nat.add_mul] at h6
      refine ⟨.pointer (some ⟨b,o+(toI k n).toNat*t.sz,none⟩),?_,.one _ _ rfl (.fptr _ _ b _ _ hF (hA.sub (by omega)) h7)⟩
      unfold Instr.indexAt
      simp only [Sem.run_bind,asIntOf,pure,Sem.run,Result.andThen_ok,und hT,Instr.sureAddr]
      rw [if_pos hin]
      simp only [Sem.run_bind,sizeOf_run h2,Result.andThen_ok,pure,Sem.run,addr_add,h3]
     ·cases h
    ·cases h
   ·cases h
  ·rename_i e hT
   have hrun:∀ {A:Addr} {len cap:Nat} {t:Ty},tyC P e=some t->0<=toI k n->toI k n<(len:Int)->(Instr.indexAt T (.slice (some A) len cap) (.int k (toI k n))).run P w=.ok (.pointer (some (A.add ((toI k n).toNat*t.sz)))) w:=by
    intro A len cap t hel h0 h1
    obtain ⟨_,⟨inf,h2⟩,h3,_,_⟩:=tyC_some hel
    unfold Instr.indexAt
    simp only [Sem.run_bind,asIntOf,pure,Sem.run,Result.andThen_ok,und hT]
    rw [if_pos ⟨h0,h1⟩]
    simp only [Sem.run_bind,sizeOf_run h2,Result.andThen_ok,pure,Sem.run,h3]
   split at h
   ·rename_i t xs
    split at h
    ·rename_i hel
     split at h
     ·rename_i hin
      cases h
      have hel:=elemIs_some hel
      rcases ha.dat_inv with ⟨_,hr⟩|⟨hm,_⟩
      ·obtain ⟨A,c,rfl,hc,hz|⟨b,off,rfl,hF,hx⟩⟩:=slice_elem hr
       ·rw [hz] at hin;omega
       ·obtain ⟨us,hA,hr'⟩:=hx (toI k n).toNat (by omega)
        refine ⟨_,hrun hel hin.1 hin.2,?_⟩
        rw [addr_add,getD_get _ _ _ (by omega)]
        exact .one _ _ rfl (.fptr _ _ b _ us hF hA hr')
      ·simp [isMany] at hm
     ·cases h
    ·cases h
   ·rename_i id
    split at h
    ·rename_i t xs hA
     split at h
     ·rename_i hel
      split at h
      ·rename_i hin
       cases h
       have hel:=elemIs_some hel
       obtain ⟨c,t',len,rfl,hc,hsh,hle⟩:=ha.full_inv
       obtain ⟨h1,h3⟩:=arrV_rel g hA hc
       have:len=xs.length:=by rw [hsh] at h1;simp [arrSh] at h1;omega
       subst this
       cases hb:c.b with
       |none=>rw [h3 hb] at hin;simp at hin;omega
       |some b=>
        refine ⟨_,by rw [Conc.adr_some hb];exact hrun hel hin.1 hin.2,?_⟩
        rw [addr_add]
        exact .one _ _ rfl (.ptr _ _ c b _ hc hb (placeOf_elem h1 hin.1 hin.2))
      ·cases h
     ·cases h
    ·cases h
   ·rename_i id off lo hi'
    split at h
    ·rename_i t xs hA
     split at h
     ·rename_i hel
      split at h
      ·rename_i hin
       cases h
       have hel:=elemIs_some hel
       obtain ⟨c,m,t',A,cap,rfl,hc,hsh,h4,h5,h6,h7,h8⟩:=ha.sub_inv
       obtain ⟨h1,h2,h3⟩:=arrAt_rel g hA hc
       rw [hsh] at h1;cases h1
       rcases h8 with h8|⟨b,hb,rfl⟩
       ·omega
       refine ⟨_,hrun hel hin.1 (by omega),?_⟩
       rw [addr_add]
       have:=placeOf_elem hsh (i:=lo+toI k n) (by omega) (by omega)
       rw [show (lo+toI k n).toNat=lo.toNat+(toI k n).toNat by omega,Nat.add_mul,←Nat.add_assoc] at this
       exact .one _ _ rfl (.ptr _ _ c b _ hc hb this)
      ·cases h
     ·cases h
    ·cases h
   ·cases h
  ·cases h
 ·cases h
end
end
end Go.LM
