/- LmD: LmC1 LmC2 LmO1 LmG1 LmG2 LmG3 LmG4 LmG5 LmG6 LmG7 LmMap LmO2. -/
import Derived.Test.YtedcnpankkaboaaGreatLmC
import Derived.Test.YtedcnpankkaboaaGreatLmB
import Derived.MapKept
set_option linter.unusedSimpArgs false
set_option linter.unusedVariables false
namespace Go.LM
section
section
variable {F F':Nat->Prop} {w w':World} {β β':Nat->Option Conc}
theorem renA_csz (f:Nat->Nat) (a:AV):(renA f a).csz=a.csz:=by cases a<;>simp [renA,AV.csz]
theorem renA_many (f:Nat->Nat) (a:AV):isMany (renA f a)=isMany a:=by
 cases a<;>simp [renA,isMany]
theorem renA_sh (f:Nat->Nat) (a:AV):leafSh (renA f a)=leafSh a:=by cases a<;>simp [renA,leafSh]
theorem renL_map (f:Nat->Nat):∀ l:List AV,renL f l=l.map (renA f)
 | []=>rfl
 |a::l=>by simp [renL,renL_map f l]
theorem idsL_mem {id:Nat}:∀ {l:List AV},id∈idsL l↔∃ a∈l,id∈idsA a
 | []=>by simp [idsL]
 |a::l=>by simp [idsL,idsL_mem (l:=l)]
mutual
theorem RelC.ren {f:Nat->Nat} (hf:∀ b,F b->F' b/\cellsAt w' b=cellsAt w b):∀ {a vs},RelC F w β a vs->(∀ id∈idsA a,∀ c,β id=some c->β' (f id)=some c)->RelC F' w' β' (renA f a) vs
 |_,_,.dat t x vs h,hb=>.dat t x vs (rep_mono hf t x vs h)
 |_,_,.nilS,hb=>.nilS
 |_,_,.nilP,hb=>.nilP
 |_,_,.nilF,hb=>.nilF
 |_,_,.full id c t len h1 h2 h3,hb=>.full (f id) c t len (hb id (by simp [idsA]) c h1) h2 h3
 |_,_,.sub id off lo hi c n t A cap h1 h3 h4 h5 h6 h7 h8,hb=>.sub (f id) off lo hi c n t A cap (hb id (by simp [idsA]) c h1) h3 h4 h5 h6 h7 h8
 |_,_,.ptr id p c b o h1 h2 h3,hb=>.ptr (f id) p c b o (hb id (by simp [idsA]) c h1) h2 h3
 |_,_,.mref id c k v b h1 h2 h3,hb=>.mref (f id) c k v b (hb id (by simp [idsA]) c h1) h2 h3
 |_,_,.fptr t x b o us h1 h2 h3,hb=>.fptr t x b o us (hf _ h1).1 (h2.mono (hf _ h1).2) (rep_mono hf t x us h3)
 |_,_,.nz b t xs A n c h1 h2,hb=>.nz b t xs A n c (rep_mono hf (.sl t) xs _ h1) h2
 |_,_,.mpn t x,hb=>.mpn t x
 |_,_,.mps t x b o us h1 h2 h3,hb=>.mps t x b o us (hf _ h1).1 (h2.mono (hf _ h1).2) (rep_mono hf t x us h3)
 |_,_,.fn g caps vs h,hb=>.fn g (renL f caps) vs (RelVs.ren hf h (fun id hid=>hb id (by simpa [idsA] using hid)))
 |_,_,.agg xs vs h,hb=>.agg (renL f xs) vs (RelCs.ren hf h (fun id hid=>hb id (by simpa [idsA] using hid)))
theorem RelCs.ren {f:Nat->Nat} (hf:∀ b,F b->F' b/\cellsAt w' b=cellsAt w b):∀ {l vs},RelCs F w β l vs->(∀ id∈idsL l,∀ c,β id=some c->β' (f id)=some c)->RelCs F' w' β' (renL f l) vs
 |_,_,.nil,hb=>.nil
 |_,_,.cons a l us vs h1 h2 h3,hb=>.cons (renA f a) (renL f l) us vs (RelC.ren hf h1 (fun id hid=>hb id (by simp [idsL,hid]))) (by rw [renA_csz];exact h2) (RelCs.ren hf h3 (fun id hid=>hb id (by simp [idsL,hid])))
theorem RelV.ren {f:Nat->Nat} (hf:∀ b,F b->F' b/\cellsAt w' b=cellsAt w b):∀ {a v},RelV F w β a v->(∀ id∈idsA a,∀ c,β id=some c->β' (f id)=some c)->RelV F' w' β' (renA f a) v
 |_,_,.one a v h1 h2,hb=>.one (renA f a) v (by rw [renA_many];exact h1) (RelC.ren hf h2 hb)
 |_,_,.many a cs h1 h2,hb=>.many (renA f a) cs (by rw [renA_many];exact h1) (RelC.ren hf h2 hb)
 |_,_,.tup xs vs h,hb=>.tup (renL f xs) vs (RelVs.ren hf h (fun id hid=>hb id (by simpa [idsA] using hid)))
 |_,_,.any v,hb=>.any v
theorem RelVs.ren {f:Nat->Nat} (hf:∀ b,F b->F' b/\cellsAt w' b=cellsAt w b):∀ {l vs},RelVs F w β l vs->(∀ id∈idsL l,∀ c,β id=some c->β' (f id)=some c)->RelVs F' w' β' (renL f l) vs
 |_,_,.nil,hb=>.nil
 |_,_,.cons a l v vs h1 h2,hb=>.cons (renA f a) (renL f l) v vs (RelV.ren hf h1 (fun id hid=>hb id (by simp [idsL,hid]))) (RelVs.ren hf h2 (fun id hid=>hb id (by simp [idsL,hid])))
end
theorem BRel.congrβ {F:Nat->Prop} {w:World} {β β':Nat->Option Conc} {c:Conc} {e:Ty} {xs:List e.D} (h:BRel F w β c (.deep e xs none)):BRel F w β' c (.deep e xs none):=by
 obtain ⟨h0,h1,h2,h3,h3',h4⟩:=h
 refine ⟨h0,h1,h2,h3,h3',fun b hcb=>?_⟩
 obtain ⟨l,hl,hsz,hr,hfz,hho,hds⟩:=h4 b hcb
 exact ⟨l,hl,hsz,hr,hfz,(fun _ _ _ e=>by cases e),hds⟩
theorem BRel.ren {f:Nat->Nat} (hf:∀ b,F b->F' b/\cellsAt w' b=cellsAt w b) {c:Conc} {blk:Blk} (hb:∀ id∈idsB blk,∀ c,β id=some c->β' (f id)=some c) (h:BRel F w β c blk)
  (hw':∀ b,Touch w c (some blk) b->w'.heap[b]?=w.heap[b]?):BRel F' w' β' c (renB f blk):=by
 have hw:∀ b,c.b=some b->w'.heap[b]?=w.heap[b]?:=fun b h=>hw' b (.inl h)
 cases blk with
 |dead=>trivial
 |deep e xs hole=>
  cases hole with
  |none=>exact (BRel.mono (β:=β) (β':=β) ⟨hf,fun id c h=>h⟩ h hw').congrβ
  |some q=>
   obtain ⟨j,o,id'⟩:=q
   obtain ⟨h0,h1,h2,h3,h3',h4⟩:=BRel.mono (β:=β) (β':=β) (F':=F') (w':=w') ⟨hf,fun id c h=>h⟩ h hw'
   refine ⟨h0,h1,h2,(fun e=>by have:=(h3 e).2.2;cases this),(fun j' o' id'' e=>by cases e;exact h3' j o id' rfl),fun b hcb=>?_⟩
   obtain ⟨l,hl,hsz,hr,hfz,hho,hds⟩:=h4 b hcb
   refine ⟨l,hl,hsz,hr,hfz,fun j' o' id'' e=>?_,hds⟩
   cases e
   obtain ⟨c',t,n,q1,q2,q3⟩:=hho j o id' rfl
   exact ⟨c',t,n,hb id' (by simp [idsB]) c' q1,q2,q3⟩
 |row t xs fr=>
  obtain ⟨h1,h2,h3,h4⟩:=h
  refine ⟨h1,h2,h3,fun b hcb=>?_⟩
  obtain ⟨⟨l,hl,hsz,hr⟩,h5,h6⟩:=h4 b hcb
  exact ⟨⟨l,(cellsAt_of_heap (hw b hcb)).trans hl,hsz,fun i hi=>rep_mono hf _ _ _ (hr i hi)⟩,fun e=>(hf b (h5 e)).1,fun e o ho=>(frozen_of_heap (hw b hcb) o).trans (h6 e o ho)⟩
 |mapB k v es=>
  obtain ⟨h1,b,hcb,l,ck,hl,hck,he⟩:=h
  refine ⟨h1,b,hcb,l,ck,?_,hck,he.1,fun i q1 q2=>?_⟩
  ·unfold mapAt at hl ⊢
   rw [hw b hcb];exact hl
  ·have e0:Ext F w (fun _=>none) F' w' (fun _=>none):=⟨hf,fun _ _ h=>by cases h⟩
   obtain ⟨a1,a2,a3⟩:=he.2 i q1 q2
   exact ⟨a1.mono e0,a2.mono e0,a3⟩
 |vars cs=>
  obtain ⟨⟨h1,hfl⟩,b,hcb,⟨l,hl,hr⟩,h6⟩:=h
  refine ⟨⟨?_,?_⟩,b,hcb,⟨l,(cellsAt_of_heap (hw b hcb)).trans hl,RelCs.ren hf hr hb⟩,fun o=>(frozen_of_heap (hw b hcb) o).trans (h6 o)⟩
  ·rw [h1,renL_map,List.map_map]
   congr 1
   apply List.map_congr_left
   intro a _
   exact (renA_sh f a).symm
  ·rw [renL_map]
   unfold flat at hfl ⊢
   rw [List.all_map,←hfl]
   congr 1
   funext a
   simp [renA_sh,renA_csz]
theorem rep_noSl:∀ (t:Ty) (x:t.D) (vs:List Value),t.hasSl=false->rep F w t x vs->rep F' w' t x vs
 |.int _,_,_,_,h=>by simpa only [rep] using h
 |.bool,_,_,_,h=>by simpa only [rep] using h
 |.str,_,_,_,h=>by simpa only [rep] using h
 |.sl _,_,_,hs,_=>by cases hs
 |.un,_,_,_,h=>by simpa only [rep] using h
 |.pr a b,x,_,hs,h=>by
  simp only [Ty.hasSl,Bool.or_eq_false_iff] at hs
  simp only [rep] at h ⊢
  obtain ⟨us,ws,h0,h1,h2⟩:=h
  exact ⟨us,ws,h0,rep_noSl a _ _ hs.1 h1,rep_noSl b _ _ hs.2 h2⟩
 |.ar n e,_,_,hs,h=>by
  simp only [Ty.hasSl] at hs
  simp only [rep] at h ⊢
  exact ⟨h.1,h.2.1,fun i hi=>rep_noSl e _ _ hs (h.2.2 i hi)⟩
mutual
theorem RelC.noSl:∀ {a vs},RelC F w β a vs->noSl a=true->RelC F' w' β a vs
 |_,_,.dat t x vs h,hs=>.dat t x vs (rep_noSl t x vs (by simpa [LM.noSl] using hs) h)
 |_,_,.nilS,_=>.nilS
 |_,_,.nilP,_=>.nilP
 |_,_,.nilF,_=>.nilF
 |_,_,.full id c t len h1 h2 h3,_=>.full id c t len h1 h2 h3
 |_,_,.sub id off lo hi c n t A cap h1 h3 h4 h5 h6 h7 h8,_=>.sub id off lo hi c n t A cap h1 h3 h4 h5 h6 h7 h8
 |_,_,.ptr id p c b o h1 h2 h3,_=>.ptr id p c b o h1 h2 h3
 |_,_,.mref id c k v b h1 h2 h3,_=>.mref id c k v b h1 h2 h3
 |_,_,.fptr t x b o us h1 h2 h3,hs=>by simp [LM.noSl] at hs
 |_,_,.nz ..,hs=>by simp [LM.noSl] at hs
 |_,_,.mpn ..,hs=>by simp [LM.noSl] at hs
 |_,_,.mps ..,hs=>by simp [LM.noSl] at hs
 |_,_,.fn g caps vs h,hs=>.fn g caps vs (RelVs.noSl h (by simpa [LM.noSl] using hs))
 |_,_,.agg xs vs h,hs=>.agg xs vs (RelCs.noSl h (by simpa [LM.noSl] using hs))
theorem RelCs.noSl:∀ {l vs},RelCs F w β l vs->noSlL l=true->RelCs F' w' β l vs
 |_,_,.nil,_=>.nil
 |_,_,.cons a l us vs h1 h2 h3,hs=>.cons a l us vs (RelC.noSl h1 (by simp [noSlL] at hs;exact hs.1)) h2 (RelCs.noSl h3 (by simp [noSlL] at hs;exact hs.2))
theorem RelV.noSl:∀ {a v},RelV F w β a v->noSl a=true->RelV F' w' β a v
 |_,_,.one a v h1 h2,hs=>.one a v h1 (RelC.noSl h2 hs)
 |_,_,.many a cs h1 h2,hs=>.many a cs h1 (RelC.noSl h2 hs)
 |_,_,.tup xs vs h,hs=>.tup xs vs (RelVs.noSl h (by simpa [LM.noSl] using hs))
 |_,_,.any v,_=>.any v
theorem RelVs.noSl:∀ {l vs},RelVs F w β l vs->noSlL l=true->RelVs F' w' β l vs
 |_,_,.nil,_=>.nil
 |_,_,.cons a l v vs h1 h2,hs=>.cons a l v vs (RelV.noSl h1 (by simp [noSlL] at hs;exact hs.1)) (RelVs.noSl h2 (by simp [noSlL] at hs;exact hs.2))
end
theorem repO_noF {ho:Option Nat}:∀ (t:Ty) (off:Nat) (x:t.D) (vs:List Value),deepK t=true->repO F w ho off t x vs->repO F' w ho off t x vs
 |.sl e,off,xs,vs,hd,h=>by
  simp only [deepK,Bool.not_eq_true'] at hd
  simp only [repO] at h ⊢
  obtain ⟨A,n,c,h1,h2⟩:=h
  refine ⟨A,n,c,h1,fun hne=>?_⟩
  obtain ⟨h3,h4,h5⟩:=h2 hne
  refine ⟨h3,h4,h5.imp id ?_⟩
  rintro ⟨b,l,q1,q2,q3,q4,q5⟩
  exact ⟨b,l,q1,q2,q3,fun i hi=>rep_noSl _ _ _ hd (q4 i hi),q5⟩
 |.pr a b,off,x,vs,hd,h=>by
  simp only [deepK,Bool.and_eq_true] at hd
  simp only [repO] at h ⊢
  obtain ⟨us,ws,h0,h1,h2⟩:=h
  exact ⟨us,ws,h0,repO_noF a _ _ _ hd.1 h1,repO_noF b _ _ _ hd.2 h2⟩
 |.int k,_,x,vs,_,h=>by simp only [repO] at h ⊢;exact rep_noSl _ _ _ rfl h
 |.bool,_,x,vs,_,h=>by simp only [repO] at h ⊢;exact rep_noSl _ _ _ rfl h
 |.str,_,x,vs,_,h=>by simp only [repO] at h ⊢;exact rep_noSl _ _ _ rfl h
 |.un,_,x,vs,_,h=>by simp only [repO] at h ⊢;exact rep_noSl _ _ _ rfl h
 |.ar n e,_,x,vs,hd,h=>by
  simp only [deepK,Bool.not_eq_true'] at hd
  simp only [repO] at h ⊢;exact rep_noSl _ _ _ hd h
theorem BRel.noSl {c:Conc} {blk:Blk} (hs:noSlB (some blk)=true) (h:BRel F w β c blk):BRel F' w β c blk:=by
 cases blk with
 |dead=>trivial
 |deep e xs hole=>
  obtain ⟨h0,h1,h2,h3,h3',h4⟩:=h
  refine ⟨h0,h1,h2,h3,h3',fun b hcb=>?_⟩
  obtain ⟨l,hl,hsz,hr,hfz,hho,hds⟩:=h4 b hcb
  exact ⟨l,hl,hsz,fun i hi=>repO_noF _ _ _ _ h0 (hr i hi),hfz,hho,hds⟩
 |row t xs fr=>
  simp only [noSlB,Bool.and_eq_true,Bool.not_eq_true'] at hs
  obtain ⟨h1,h2,h3,h4⟩:=h
  refine ⟨h1,h2,h3,fun b hcb=>?_⟩
  obtain ⟨⟨l,hl,hsz,hr⟩,h5,h6⟩:=h4 b hcb
  refine ⟨⟨l,hl,hsz,fun i hi=>rep_noSl _ _ _ hs.1 (hr i hi)⟩,fun e=>?_,h6⟩
  rw [hs.2] at e;cases e
 |mapB k v es=>
  simp only [noSlB,Bool.and_eq_true,Bool.not_eq_true'] at hs
  obtain ⟨h1,b,hcb,l,ck,hl,hck,he⟩:=h
  refine ⟨h1,b,hcb,l,ck,hl,hck,he.1,fun i q1 q2=>?_⟩
  obtain ⟨a1,a2,a3⟩:=he.2 i q1 q2
  exact ⟨RelV.noSl a1 (by simp [LM.noSl,hs.1]),RelV.noSl a2 (by simp [LM.noSl,hs.2]),a3⟩
 |vars cs=>
  obtain ⟨h0,b,hcb,⟨l,hl,hr⟩,h6⟩:=h
  exact ⟨h0,b,hcb,⟨l,hl,hr.noSl (by simpa [noSlB] using hs)⟩,h6⟩
theorem RowsF.mono {H:Heap} {l l':List AV} (h:RowsF F β H l) (hs:∀ a∈l',a∈l):RowsF F β H l':=
 fun id hid=>h id (hid.imp (hs _) fun ⟨o,lo,hi,h⟩=>⟨o,lo,hi,hs _ h⟩)
mutual
theorem exportA_rel {X H} (g:Good X F w β H):∀ {a a':AV} {vs:List Value},exportA H a=some a'->RelC F w β a vs->RowsF F β H [a]->(∀ xs,a=.agg xs->RowsF F β H xs)->RelC F w β a' vs/\isMany a'=isMany a/\a'.csz=a.csz
 |.full id,a',vs,h,hr,hF,_=>by
  simp only [exportA] at h
  split at h
  ·rename_i hrow
   obtain ⟨t0,ys0,fr0,hrow'⟩:∃ t xs fr,H id=some (.row t xs fr):=by
    simp only [isRowD] at hrow
    split at hrow
    ·exact ⟨_,_,_,by assumption⟩
    ·exact ((hF id (.inl (List.mem_singleton.2 rfl))).1 ⟨_,_,by assumption⟩).elim
    ·cases hrow
   have hV:arrV H id 0=arrAt H id 0:=by unfold arrV;rw [hrow']
   rw [hV] at h
   cases hA:arrAt H id 0 with
   |none=>rw [hA] at h;cases h
   |some p=>
    obtain ⟨t,xs⟩:=p
    rw [hA] at h;cases h
    exact ⟨.dat _ _ _ (elems_rep g (a:=.full id) hA hr (by simp only [isRow];rw [hrow']) hF),rfl,rfl⟩
  ·cases h
 |.sub id off lo hi,a',vs,h,hr,hF,_=>by
  simp only [exportA] at h
  split at h
  ·rename_i hrow
   cases hA:elemsOf H (.sub id off lo hi) with
   |none=>rw [hA] at h;cases h
   |some p=>
    obtain ⟨t,xs⟩:=p
    rw [hA] at h;cases h
    exact ⟨.dat _ _ _ (elems_rep g (a:=.sub id off lo hi) hA hr hrow hF),rfl,rfl⟩
  ·cases h
 |.nilS,a',vs,h,hr,_,_=>by simp only [exportA] at h;cases h;exact ⟨hr,rfl,rfl⟩
 |.agg xs,a',vs,h,hr,_,hF=>by
  simp only [exportA] at h
  cases hx:exportL H xs with
  |none=>rw [hx] at h;cases h
  |some ys=>
   rw [hx] at h;cases h
   cases hr with
   |agg _ _ hr=>exact ⟨.agg _ _ (exportL_rel g hx hr (hF xs rfl)),rfl,rfl⟩
 |.dat t x,a',vs,h,hr,_,_=>by simp only [exportA] at h;cases h;exact ⟨hr,rfl,rfl⟩
 |.nilP,a',vs,h,hr,_,_=>by simp only [exportA] at h;cases h;exact ⟨hr,rfl,rfl⟩
 |.nilF,a',vs,h,hr,_,_=>by simp only [exportA] at h;cases h;exact ⟨hr,rfl,rfl⟩
 |.ptr id p,a',vs,h,hr,_,_=>by simp only [exportA] at h;cases h;exact ⟨hr,rfl,rfl⟩
 |.mref id,a',vs,h,hr,_,_=>by simp only [exportA] at h;cases h;exact ⟨hr,rfl,rfl⟩
 |.fptr t x,a',vs,h,hr,_,_=>by simp only [exportA] at h;cases h;exact ⟨hr,rfl,rfl⟩
 |.nz b t x,a',vs,h,hr,_,_=>by simp only [exportA] at h;cases h;exact ⟨hr,rfl,rfl⟩
 |.mp b t x,a',vs,h,hr,_,_=>by simp only [exportA] at h;cases h;exact ⟨hr,rfl,rfl⟩
 |.fn f cs,a',vs,h,hr,_,_=>by simp only [exportA] at h;cases h;exact ⟨hr,rfl,rfl⟩
 |.tup xs,a',vs,h,hr,_,_=>by cases hr
 |.any,a',vs,h,hr,_,_=>by cases hr
theorem exportL_rel {X H} (g:Good X F w β H):∀ {l l':List AV} {vs:List Value},exportL H l=some l'->RelCs F w β l vs->RowsF F β H l->RelCs F w β l' vs
 | [],l',vs,h,hr,_=>by simp only [exportL] at h;cases h;exact hr
 |a::l,l',_,h,.cons _ _ us vs h1 h2 h3,hF=>by
  simp only [exportL] at h
  cases ha:exportA H a with
  |none=>rw [ha] at h;cases h
  |some b=>
   cases hl:exportL H l with
   |none=>rw [ha,hl] at h;cases h
   |some m=>
    rw [ha,hl] at h;cases h
    have hagg:∀ xs,a=.agg xs->RowsF F β H xs:=by
     intro xs e
     subst e
     simp only [AV.csz] at h2
     have hus:us=[]:=List.eq_nil_of_length_eq_zero h2
     cases h1 with
     |agg _ _ hx=>
     subst hus
     have key:∀ (xs:List AV) (vs:List Value),RelCs F w β xs vs->vs=[]->RowsF F β H xs:=by
      intro xs
      induction xs with
      |nil=>intro vs _ _ id hid;rcases hid with hid|⟨_,_,_,hid⟩<;>cases hid
      |cons x xs ih=>
       intro vs hr hv
       cases hr with
       |cons _ _ us vs h1 h2 h3=>
       have h4:=List.append_eq_nil_iff.1 hv
       have ihx:=ih vs h3 h4.2
       rw [h4.1] at h1
       intro id hid
       rcases hid with hid|⟨off,lo,hi,hid⟩
       ·rcases List.mem_cons.1 hid with e|e
        ·subst e;cases h1
        ·exact ihx id (.inl e)
       ·rcases List.mem_cons.1 hid with e|e
        ·subst e;cases h1
        ·exact ihx id (.inr ⟨off,lo,hi,e⟩)
     exact key xs [] hx rfl
    obtain ⟨h4,_,h5⟩:=exportA_rel g ha h1 hF.cons.1 hagg
    exact .cons _ _ us vs h4 (by rw [h5];exact h2) (exportL_rel g hl h3 hF.cons.2)
end
theorem exportV_rel {X H} (g:Good X F w β H) {a a':AV} {v:Value} (h:exportA H a=some a') (hr:RelV F w β a v) (hF:RowsF F β H a.leaves):RelV F w β a' v:=by
 cases hr with
 |one _ _ hm hc=>
  have hl:a.leaves=[a]:=by
   cases a with
   |dat t x=>cases t<;>simp [isMany] at hm<;>rfl
   |agg _=>simp [isMany] at hm
   |_=>rfl
  rw [hl] at hF
  obtain ⟨h1,h2,_⟩:=exportA_rel g h hc hF (fun xs e=>by subst e;simp [isMany] at hm)
  exact .one _ _ (by rw [h2];exact hm) h1
 |many _ cs hm hc=>
  cases a with
  |dat t x=>simp only [exportA] at h;cases h;exact .many _ _ hm hc
  |agg xs=>
   obtain ⟨h1,h2,_⟩:=exportA_rel g h hc (fun id hid=>by rcases hid with hid|⟨_,_,_,hid⟩<;>simp at hid) (fun ys e=>by injection e with e;subst e;exact hF)
   exact .many _ _ (by rw [h2];exact hm) h1
  |_=>simp [isMany] at hm
 |tup xs vs hx=>simp only [exportA] at h;cases h;exact .tup xs vs hx
 |any v=>simp only [exportA] at h;cases h;exact .any v
theorem exportAll_rel {X H} (g:Good X F w β H):∀ {m:List Bool} {l l':List AV} {vs:List Value},exportAll H m l=some l'->RelVs F w β l vs->RowsF F β H (lentRows m l)->RelVs F w β l' vs:=by
 intro m l
 induction l generalizing m with
 |nil=>intro l' vs h hr hF;simp only [exportAll] at h;cases h;exact hr
 |cons a l ih=>
  intro l' vs h hr hF
  cases hr with
  |cons _ _ v vs h1 h2=>
  have data:∀ m',(exportA H a).bind (fun b=>(exportAll H m' l).map (b::·))=some l'->RowsF F β H (a.leaves++lentRows m' l)->RelVs F w β l' (v::vs):=by
   intro m' h hF
   cases ha:exportA H a with
   |none=>rw [ha] at h;cases h
   |some b=>
    cases hl:exportAll H m' l with
    |none=>rw [ha,hl] at h;cases h
    |some l2=>
     rw [ha,hl] at h;cases h
     exact .cons _ _ _ _ (exportV_rel g ha h1 (hF.mono fun x hx=>List.mem_append_left _ hx)) (ih hl h2 (hF.mono fun x hx=>List.mem_append_right _ hx))
  cases m with
  |nil=>exact data [] h hF
  |cons b m=>
   cases b with
   |false=>exact data m h hF
   |true=>
    simp only [exportAll] at h
    cases hl:exportAll H m l with
    |none=>rw [hl] at h;cases h
    |some l2=>
     rw [hl] at h;cases h
     exact .cons _ _ _ _ h1 (ih hl h2 hF)
end
end
section
theorem idxOf_some:∀ {l:List Nat} {x k j:Nat},idxOf x l k=some j->k<=j/\l[j - k]?=some x
 | [],_,_,_,h=>by cases h
 |y::l,x,k,j,h=>by
  simp only [idxOf] at h
  split at h
  ·rename_i e;cases h;subst e;simp
  ·obtain ⟨h1,h2⟩:=idxOf_some h
   refine ⟨by omega,?_⟩
   rw [show j - k=(j - (k+1))+1 by omega,List.getElem?_cons_succ]
   exact h2
theorem idxOf_mem:∀ {l:List Nat} {x k:Nat},x∈l->∃ j,idxOf x l k=some j
 | [],_,_,h=>by cases h
 |y::l,x,k,h=>by
  simp only [idxOf]
  split
  ·exact ⟨_,rfl⟩
  ·rename_i e
   exact idxOf_mem ((List.mem_cons.1 h).resolve_left e)
theorem idxOf_none:∀ {l:List Nat} {x k:Nat},idxOf x l k=none->x∉l:=fun h hm=>by
 obtain ⟨j,hj⟩:=idxOf_mem hm
 rw [hj] at h;cases h
theorem idxOf_get:∀ {l:List Nat} {x k i:Nat},nodupB l=true->l[i]?=some x->idxOf x l k=some (k+i)
 | [],_,_,_,_,h=>by simp at h
 |y::l,x,k,i,hn,h=>by
  simp only [nodupB,Bool.and_eq_true,Bool.not_eq_true'] at hn
  simp only [idxOf]
  cases i with
  |zero=>simp at h;rw [if_pos h.symm];rfl
  |succ i=>
   simp only [List.getElem?_cons_succ] at h
   have hm:x∈l:=List.mem_of_getElem? h
   have hne:x≠y:=fun e=>by
    subst e
    have:=hn.1
    simp [hm] at this
   rw [if_neg hne,idxOf_get hn.2 h]
   congr 1;omega
def RunSoundK (K:FuncId->Array Value->World->(Ending->World->Prop)->Prop) (run:Run):Prop:=
 ∀ f args pin h r h1 n1,run f args pin h=some (r,h1,n1)->∀ (X:Cst) (F:Nat->Prop) (w:World) (β:Nat->Option Conc) (vals:List Value),
  Good X F w β h->(∀ j,β j≠none->j<pin)->RelVs F w β args vals ->
  K f vals.toArray w fun e w'=>∃ v F' β',e=.returned v/\Good X F' w' β' h1/\Ext F w β F' w' β'/\(∀ j,j<pin->β' j=β j)/\(∀ j,β' j≠none->j<n1)/\RelV F' w' β' r v
@[reducible] def RunSound (P:Program) (run:Run):Prop:=RunSoundK (Calls P) run
def LeftW (X:Cst) (F:Nat->Prop) (w:World) (β:Nat->Option Conc) (H':Heap) (id0:Nat) (a:AV) (r:Value) (w':World):Prop:=
 ∃ F' β',Good X F' w' β' H'/\Ext F w β F' w' β'/\RelV F' w' β' a r/\∀ j,β' j≠none->β j≠none\/(id0<=j/\j<id0+W)
theorem Left.wide {X F w β H' id0 a r w'} (h:Left X F w β H' id0 a r w'):LeftW X F w β H' id0 a r w':=by
 obtain ⟨F',β',h1,h2,h3,h4⟩:=h
 exact ⟨F',β',h1,h2,h3,fun j hj=>(h4 j hj).imp id fun e=>⟨by omega,by unfold W;omega⟩⟩
section
variable {P:Program} {F:Nat->Prop} {w:World} {β:Nat->Option Conc}
theorem all_contains {l m:List Nat} (h:l.all m.contains=true) {x:Nat} (hx:x∈l):x∈m:=by
 have:=List.all_eq_true.1 h x hx
 simpa using this
def rowIds:List AV->List Nat
 | []=>[]
 |.full id::l=>id::rowIds l
 |.sub id _ _ _::l=>id::rowIds l
 |_::l=>rowIds l
def frzB:Option Blk->Option Blk
 |some (.row t xs _)=>some (.row t xs true)
 |some (.deep e xs none)=>some (.row e xs true)
 |b=>b
theorem frzB_frzB (b:Option Blk):frzB (frzB b)=frzB b:=by
 cases b with
 |none=>rfl
 |some b=>cases b with
  |deep e xs hole=>cases hole<;>rfl
  |_=>rfl
theorem frz1_eq (h:Heap) (id j:Nat):frz1 h id j=if j=id then frzB (h j) else h j:=by
 unfold frz1
 by_cases e:j=id
 ·subst e;rw [if_pos rfl,if_pos rfl]
  cases h j with
  |none=>rfl
  |some b=>cases b with
   |deep e xs hole=>cases hole<;>rfl
   |_=>rfl
 ·rw [if_neg e,if_neg e]
theorem freezeL_eq:∀ (l:List AV) (h:Heap) (j:Nat),freezeL l h j=if (rowIds l).contains j then frzB (h j) else h j
 | [],h,j=>by simp [freezeL,rowIds]
 |a::l,h,j=>by
  have step:∀ id,freezeL l (frz1 h id) j=if (id::rowIds l).contains j then frzB (h j) else h j:=by
   intro id
   rw [freezeL_eq l,frz1_eq]
   by_cases e:j=id
   ·subst e
    simp only [if_true,List.contains_cons,beq_self_eq_true,Bool.true_or]
    split
    ·exact frzB_frzB _
    ·rfl
   ·simp [e]
  cases a with
  |full id=>exact step id
  |sub id off lo hi=>exact step id
  |_=>exact freezeL_eq l h j
theorem rowIds_mem:∀ {l:List AV} {id:Nat},id∈rowIds l↔(AV.full id∈l\/∃ off lo hi,AV.sub id off lo hi∈l)
 | [],id=>by simp [rowIds]
 |a::l,id=>by
  cases a<;>simp [rowIds,rowIds_mem (l:=l),eq_comm]
  ·constructor
   ·rintro (h|h|h)
    ·exact .inl (.inl h)
    ·exact .inl (.inr h)
    ·exact .inr h
   ·rintro ((h|h)|h)
    ·exact .inl h
    ·exact .inr (.inl h)
    ·exact .inr (.inr h)
  ·constructor
   ·rintro (h|h|⟨a,b,c,h⟩)
    ·exact .inr ⟨_,_,_,.inl ⟨h,rfl,rfl,rfl⟩⟩
    ·exact .inl h
    ·exact .inr ⟨a,b,c,.inr h⟩
   ·rintro (h|⟨a,b,c,⟨h,_⟩|h⟩)
    ·exact .inr (.inl h)
    ·exact .inl h
    ·exact .inr (.inr ⟨a,b,c,h⟩)
theorem rowIds_ids {l:List AV} {id:Nat} (h:id∈rowIds l):id∈idsL l:=by
 rw [idsL_mem]
 rcases rowIds_mem.1 h with h|⟨off,lo,hi,h⟩
 ·exact ⟨_,h,by simp [idsA]⟩
 ·exact ⟨_,h,by simp [idsA]⟩
theorem rowIds_none:∀ {l:List AV},hasRow l=false->rowIds l=[]
 | [],_=>rfl
 |a::l,h=>by
  cases a<;>simp [hasRow] at h<;>simp [rowIds]<;>exact rowIds_none h
theorem arrV_frz (l:List AV) (h:Heap) (id:Nat) (hr:Rowish (h id)):arrV (freezeL l h) id 0=arrV h id 0:=by
 unfold arrV arrAt
 rw [freezeL_eq]
 by_cases hc:(rowIds l).contains id=true
 ·rw [if_pos hc]
  rcases hr with ⟨t,xs,fr,h⟩|⟨e,xs,h⟩
  ·rw [h];rfl
  ·rw [h];rfl
 ·rw [if_neg hc]
theorem isRowD_rowish {h:Heap} {id:Nat}:isRowD h (.full id)=true↔Rowish (h id):=by
 simp only [isRowD]
 split
 ·rename_i t xs fr e;exact ⟨fun _=>.inl ⟨t,xs,fr,e⟩,fun _=>rfl⟩
 ·rename_i e' xs e;exact ⟨fun _=>.inr ⟨e',xs,e⟩,fun _=>rfl⟩
 ·rename_i h1 h2
  refine ⟨(fun e=>by cases e),fun e=>?_⟩
  rcases e with ⟨t,xs,fr,h⟩|⟨e,xs,h⟩
  ·exact (h1 _ _ _ h).elim
  ·exact (h2 _ _ h).elim
theorem isRowD_frz (l:List AV) (h:Heap) (id:Nat):isRowD (freezeL l h) (.full id)=isRowD h (.full id):=by
 rw [Bool.eq_iff_iff,isRowD_rowish,isRowD_rowish,freezeL_rowish]
theorem isRowS_frz (l:List AV) (h:Heap) (id off:Nat) (lo hi:Int) (hr:isRow h (.sub id off lo hi)=true):isRow (freezeL l h) (.sub id off lo hi)=true/\elemsOf (freezeL l h) (.sub id off lo hi)=elemsOf h (.sub id off lo hi):=by
 obtain ⟨t,xs,fr,h1⟩:=isRow_sub hr
 have h2:freezeL l h id=some (.row t xs (fr||(rowIds l).contains id)):=by
  rw [freezeL_eq]
  split
  ·rename_i hc;rw [h1,hc];simp [frzB]
  ·rename_i hc;rw [h1];simp at hc;simp [hc]
 refine ⟨by simp only [isRow];rw [h2],?_⟩
 unfold elemsOf arrAt
 simp only [h1,h2]
mutual
theorem exportA_frz (l:List AV) (h:Heap):∀ a {b},exportA h a=some b->exportA (freezeL l h) a=some b
 |.full id,b,e=>by
  simp only [exportA] at e ⊢
  rw [isRowD_frz]
  split at e
  ·rename_i hr
   rw [if_pos hr,arrV_frz l h id (isRowD_rowish.1 hr)];exact e
  ·cases e
 |.sub id off lo hi,b,e=>by
  simp only [exportA] at e ⊢
  split at e
  ·rename_i hr
   obtain ⟨h1,h2⟩:=isRowS_frz l h id off lo hi hr
   rw [if_pos h1,h2];exact e
  ·cases e
 |.agg xs,b,e=>by
  simp only [exportA] at e ⊢
  obtain ⟨ys,h1,h2⟩:=zM.1 e
  rw [exportL_frz l h xs h1,←h2];rfl
 |.dat _ _,_,e=>e
 |.nilS,_,e=>e
 |.nilP,_,e=>e
 |.nilF,_,e=>e
 |.ptr _ _,_,e=>e
 |.mref _,_,e=>e
 |.fptr _ _,_,e=>e
 |.nz ..,_,e=>e
 |.mp ..,_,e=>e
 |.fn _ _,_,e=>e
 |.tup _,_,e=>e
 |.any,_,e=>e
theorem exportL_frz (l:List AV) (h:Heap):∀ xs {ys},exportL h xs=some ys->exportL (freezeL l h) xs=some ys
 | [],_,e=>e
 |a::xs,ys,e=>by
  simp only [exportL] at e ⊢
  obtain ⟨b,h1,e⟩:=zB.1 e
  obtain ⟨zs,h2,h3⟩:=zM.1 e
  rw [exportA_frz l h a h1,exportL_frz l h xs h2,←h3];rfl
end
theorem exportAll_frz (l:List AV) (h:Heap):∀ (m:List Bool) (xs:List AV) {ys},exportAll h m xs=some ys->exportAll (freezeL l h) m xs=some ys:=by
 intro m xs
 induction xs generalizing m with
 |nil=>intro ys e;exact e
 |cons a xs ih=>
  intro ys e
  have two:∀ m',((exportA h a).bind fun b=>(exportAll h m' xs).map (b::·))=some ys->((exportA (freezeL l h) a).bind fun b=>(exportAll (freezeL l h) m' xs).map (b::·))=some ys:=fun m' e=>by
   obtain ⟨b,h1,e⟩:=zB.1 e
   obtain ⟨zs,h2,h3⟩:=zM.1 e
   rw [exportA_frz l h a h1,ih m' h2,←h3];rfl
  cases m with
  |nil=>simp only [exportAll] at e ⊢;exact two _ e
  |cons b m=>
   cases b with
   |true=>
    simp only [exportAll] at e ⊢
    obtain ⟨zs,h2,h3⟩:=zM.1 e
    rw [ih m h2,←h3];rfl
   |false=>simp only [exportAll] at e ⊢;exact two _ e
theorem Inner.renB {w:World} {c:Conc} {f:Nat->Nat} {ob:Option Blk} {b:Nat}:Inner w c (ob.map (LM.renB f)) b↔Inner w c ob b:=by
 cases ob with
 |none=>exact Iff.rfl
 |some blk=>
  cases blk with
  |deep e xs hole=>
   cases hole with
   |none=>exact Iff.rfl
   |some q=>obtain ⟨i,o,id⟩:=q;exact Iff.rfl
  |_=>exact Iff.rfl
theorem ownB_renB {f:Nat->Nat} {ob:Option Blk}:ownB (ob.map (LM.renB f))=ownB ob:=by
 cases ob with
 |none=>rfl
 |some blk=>
  cases blk with
  |deep e xs hole=>
   cases hole with
   |none=>rfl
   |some q=>obtain ⟨i,o,id⟩:=q;rfl
  |_=>rfl
theorem Owned.renB {w:World} {c:Conc} {f:Nat->Nat} {ob:Option Blk} {b:Nat}:Owned w c (ob.map (LM.renB f)) b↔Owned w c ob b:=by
 unfold Owned;rw [ownB_renB,Inner.renB]
theorem lent_told:∀ {m:List Bool} {l:List AV} {vs:List Value},RelVs F w β l vs->∀ id∈rowIds (lentRows m l),∃ c,β id=some c:=by
 intro m l
 induction l generalizing m with
 |nil=>intro vs _ id h;simp [lentRows,rowIds] at h
 |cons a l ih=>
  intro vs hr id h
  cases hr with
  |cons _ _ v vs h1 h2=>
  have ofRelCs:∀ {l:List AV} {us:List Value},RelCs F w β l us->∀ id∈rowIds l,∃ c,β id=some c:=by
   intro l
   induction l with
   |nil=>intro us _ id h;simp [rowIds] at h
   |cons x l ihl=>
    intro us hr id h
    cases hr with
    |cons _ _ u1 u2 g1 g2 g3=>
    rcases rowIds_mem.1 h with h|⟨off,lo,hi,h⟩
    ·rcases List.mem_cons.1 h with e|e
     ·subst e;cases g1 with|full _ c t len hc _ _=>exact ⟨c,hc⟩
     ·exact ihl g3 id (rowIds_mem.2 (.inl e))
    ·rcases List.mem_cons.1 h with e|e
     ·subst e;cases g1 with|sub _ _ _ _ c n t A cap hc _ _ _ _ _ _=>exact ⟨c,hc⟩
     ·exact ihl g3 id (rowIds_mem.2 (.inr ⟨off,lo,hi,e⟩))
  have data:∀ m',id∈rowIds (a.leaves++lentRows m' l)->∃ c,β id=some c:=by
   intro m' h
   have hsplit:id∈rowIds a.leaves\/id∈rowIds (lentRows m' l):=by
    rcases rowIds_mem.1 h with h|⟨off,lo,hi,h⟩
    ·rcases List.mem_append.1 h with h|h
     ·exact .inl (rowIds_mem.2 (.inl h))
     ·exact .inr (rowIds_mem.2 (.inl h))
    ·rcases List.mem_append.1 h with h|h
     ·exact .inl (rowIds_mem.2 (.inr ⟨off,lo,hi,h⟩))
     ·exact .inr (rowIds_mem.2 (.inr ⟨off,lo,hi,h⟩))
   rcases hsplit with h|h
   ·by_cases hv:isVal a=true
    ·exact ofRelCs (h1.leaves' hv) id h
    ·cases a<;>simp [isVal] at hv<;>simp [AV.leaves,rowIds] at h
   ·exact ih h2 id h
  cases m with
  |nil=>exact data [] h
  |cons b m=>
   cases b with
   |false=>exact data m h
   |true=>exact ih h2 id h
theorem rowIds_filter {l:List AV} {id:Nat} (h:id∈rowIds (l.filter rowOnly)):id∈rowIds l:=by
 rcases rowIds_mem.1 h with h|⟨off,lo,hi,h⟩
 ·exact rowIds_mem.2 (.inl (List.mem_filter.1 h).1)
 ·exact rowIds_mem.2 (.inr ⟨off,lo,hi,(List.mem_filter.1 h).1⟩)
theorem RowsF.unfilter {H:Heap} {l:List AV} (h:RowsF F β H (l.filter rowOnly)):RowsF F β H l:=fun id hid=>
 h id (hid.imp (fun h=>List.mem_filter.2 ⟨h,rfl⟩) fun ⟨off,lo,hi,h⟩=>⟨off,lo,hi,List.mem_filter.2 ⟨h,rfl⟩⟩)
theorem sim_callK {cx:Cx} {K:FuncId->Array Value->World->(Ending->World->Prop)->Prop} (hK:∀ {f v w R R'},K f v w R->(∀ e w',R e w'->R' e w')->K f v w R') (hrun:RunSoundK K cx.run) {X H} (g:Good X F w β H) {id0:Nat} (fresh:∀ j,id0<=j->j<id0+W->β j=none) {f:FuncId} {args:List AV} {x:AV} {H':Heap} {hd:Bool}
  (h:exCall0 cx f args H id0=some (x,H',hd)) {vals:List Value} (hv:RelVs F w β args vals) :
  K f vals.toArray w fun e w'=>∃ v,e=.returned v/\LeftW X F w β H' id0 x v w':=by
 unfold exCall0 at h
 cases has:exportAll H (cx.own f) args with
 |none=>rw [has] at h;cases h
 |some as=>
 rw [has] at h
 simp only [zb] at h
 generalize hmv:reach H 8 (addNew [] (idsL as))=moved at h
 have hlentβ:∀ id∈rowIds ((lentRows (cx.own f) args).filter rowOnly),∃ c,β id=some c:=fun id hid=>lent_told (m:=cx.own f) hv id (rowIds_filter hid)
 generalize hln:(lentRows (cx.own f) args).filter rowOnly=lent at h hlentβ
 split at h
 ·rename_i hchk
  simp only [Bool.and_eq_true] at hchk
  obtain ⟨⟨⟨⟨⟨hclosed,hnodup⟩,hargs⟩,hlent⟩,hlow⟩,hrows⟩:=hchk
  have lentRow:∀ id∈rowIds lent,Rowish (H id):=fun id hid=>by
   rcases rowIds_mem.1 hid with h|⟨off,lo,hi,h⟩
   ·exact isRowD_rowish.1 (List.all_eq_true.1 hrows _ h)
   ·exact .inl (isRow_sub (off:=off) (lo:=lo) (hi:=hi) (List.all_eq_true.1 hrows _ h))
  cases hr:cx.run f (renL (fun id=>(idxOf id moved 0).getD 0) as) moved.length (subH H moved fun id=>(idxOf id moved 0).getD 0) with
  |none=>rw [hr] at h;cases h
  |some q=>
  obtain ⟨r,h1,n1⟩:=q
  rw [hr] at h
  simp only [zb] at h
  split at h
  ·rename_i hn1
   simp only [Bool.and_eq_true,decide_eq_true_eq] at hn1
   obtain ⟨hn1,hn2⟩:=hn1
   obtain ⟨Fc,gf,exf,hRF,hFc0⟩:∃ Fc,Good X Fc w β (freezeL lent H)/\Ext F w β Fc w β/\RowsF Fc β (freezeL lent H) lent/\(hasRow lent=false->Fc=F):=by
    cases hrow:hasRow lent with
    |true=>
     obtain ⟨Fc,a,b,c⟩:=g.freezeL lent
     exact ⟨Fc,a,b,c,fun e=>by cases e⟩
    |false=>
     have e:freezeL lent H=H:=by
      funext j
      rw [freezeL_eq,if_neg]
      simp only [List.contains_iff_mem]
      intro hj
      have hnr:=rowIds_none hrow
      rw [hnr] at hj;cases hj
     rw [e]
     exact ⟨F,g,.refl,hasRow_none hrow,fun _=>rfl⟩
   have lentid:∀ id∈rowIds lent,id∉moved:=fun id hid hm=>by
    have:=List.all_eq_true.1 hlent id (rowIds_ids hid)
    simp [hm] at this
   have hHf:∀ id∈moved,freezeL lent H id=H id:=fun id hid=>by
    rw [freezeL_eq,if_neg]
    simp only [List.contains_iff_mem]
    exact fun hc=>lentid id hc hid
   have toN:∀ id∈moved,∃ j,idxOf id moved 0=some j/\moved[j]?=some id:=fun id hid=>by
    obtain ⟨j,hj⟩:=idxOf_mem (k:=0) hid
    exact ⟨j,hj,by simpa using (idxOf_some hj).2⟩
   have mvblk:∀ id∈moved,∃ blk,H id=some blk/\∀ k∈idsB blk,k∈moved:=fun id hid=>by
    have:=List.all_eq_true.1 hclosed id hid
    split at this
    ·rename_i blk hb;exact ⟨blk,hb,fun k hk=>all_contains this hk⟩
    ·cases this
   let movedB:Nat->Prop:=fun b=>∃ id c,id∈moved/\β id=some c/\Owned w c (H id) b
   let βc:Nat->Option Conc:=fun j=>match moved[j]? with|some id=>β id|none=>none
   let X':Cst:=⟨fun b=>b<w.heap.size/\¬ movedB b,Fc,w.heap.size,w,[]⟩
   have hβc:∀ {j id},moved[j]?=some id->βc j=β id:=fun {j id} hj=>by show (match moved[j]? with|some id=>β id|none=>none)=β id;rw [hj]
   have hβc':∀ {j c},βc j=some c->∃ id,moved[j]?=some id/\β id=some c:=fun {j c} hj=>by
    change (match moved[j]? with|some id=>β id|none=>none)=some c at hj
    split at hj
    ·exact ⟨_,by assumption,hj⟩
    ·cases hj
   have ren1:∀ id∈moved,∀ c,β id=some c->βc ((idxOf id moved 0).getD 0)=some c:=fun id hid c hc=>by
    obtain ⟨j,hj,hj2⟩:=toN id hid
    rw [hj];show βc j=some c;rw [hβc hj2];exact hc
   have hsub:∀ {j id},moved[j]?=some id->subH H moved (fun id=>(idxOf id moved 0).getD 0) j=(H id).map (renB fun id=>(idxOf id moved 0).getD 0):=fun {j id} hj=>by unfold subH;rw [hj]
   have ownsub:∀ {j c b},Owned w c (subH H moved (fun id=>(idxOf id moved 0).getD 0) j) b->∃ id,moved[j]?=some id/\Owned w c (H id) b:=fun {j c b} ho=>by
    cases hj:moved[j]? with
    |none=>unfold subH at ho;rw [hj] at ho;cases ho.1
    |some id=>
     rw [hsub hj] at ho
     exact ⟨id,rfl,Owned.renB.1 ho⟩
   have gc:Good X' Fc w βc (subH H moved fun id=>(idxOf id moved 0).getD 0):=by
    refine ⟨fun j c hc=>?_,fun j c b hc ho=>?_,fun j j' c c' b hc hc' ho ho'=>?_,gf.fsz,fun b hb=>.inl hb,fun b hb=>hb,fun b _=>rfl,fun b hb=>hb.1,Nat.le_refl _,⟨rfl,rfl⟩⟩
    ·obtain ⟨id,hj,hid⟩:=hβc' hc
     have hm:=List.mem_of_getElem? hj
     obtain ⟨blk,hb1,hb2⟩:=gf.hr id c hid
     rw [hHf id hm] at hb1
     refine ⟨_,by rw [hsub hj,hb1];rfl,?_⟩
     obtain ⟨blk',hb1',hcl⟩:=mvblk id hm
     rw [hb1] at hb1';cases hb1'
     exact hb2.ren (fun b hb=>⟨hb,rfl⟩) (fun k hk=>ren1 k (hcl k hk)) (fun _ _=>rfl)
    ·obtain ⟨id,hj,hid⟩:=hβc' hc
     obtain ⟨id',hj',ho'⟩:=ownsub ho
     rw [hj] at hj';cases hj'
     have hm:=List.mem_of_getElem? hj
     obtain ⟨a1,_,a3⟩:=gf.own' id c b hid (by rw [hHf id hm];exact ho')
     exact ⟨a1,fun hG=>hG.2 ⟨id,c,hm,hid,ho'⟩,a3⟩
    ·obtain ⟨id,hj,hid⟩:=hβc' hc
     obtain ⟨id',hj',hid'⟩:=hβc' hc'
     obtain ⟨i1,hi1,ho1⟩:=ownsub ho
     obtain ⟨i2,hi2,ho2⟩:=ownsub ho'
     rw [hj] at hi1;cases hi1
     rw [hj'] at hi2;cases hi2
     have:=g.uniq' id id' c c' b hid hid' ho1 ho2
     subst this
     have e1:=idxOf_get (k:=0) hnodup hj
     have e2:=idxOf_get (k:=0) hnodup hj'
     rw [e1] at e2
     injection e2 with e2;omega
   have hpin:∀ j,βc j≠none->j<moved.length:=fun j hj=>by
    cases hc:βc j with
    |none=>exact absurd hc hj
    |some c=>
     obtain ⟨id,hj',_⟩:=hβc' hc
     rcases Nat.lt_or_ge j moved.length with hlt|hge
     ·exact hlt
     ·rw [List.getElem?_eq_none hge] at hj';cases hj'
   have hargsV:RelVs Fc w βc (renL (fun id=>(idxOf id moved 0).getD 0) as) vals:=by
    have h2:RelVs Fc w β as vals:=exportAll_rel gf (exportAll_frz _ _ _ _ has) (hv.mono exf) (RowsF.unfilter (by rw [hln];exact hRF))
    exact RelVs.ren (fun b hb=>⟨hb,rfl⟩) h2 (fun id hid=>ren1 id (all_contains hargs hid))
   refine hK (hrun f _ _ _ r h1 n1 hr X' Fc w βc vals gc hpin hargsV) ?_
   rintro e w' ⟨v,F1,β1,rfl,g1,ex1,hp1,hp2,rv⟩
   refine ⟨v,rfl,?_⟩
   generalize hfr:(hasRow lent&&!(noSl r&&(List.range n1).all fun j=>noSlB (h1 j)))=fr at h
   have lowid:∀ id∈moved,id<id0:=fun id hid=>by
    have:=List.all_eq_true.1 hlow id hid
    simpa using this
   have notnew:∀ {id},id0<=id->id<id0+(n1 - moved.length)->β id=none:=fun {id} a b=>fresh id a (by unfold W;omega)
   have FcF1:∀ b,Fc b->F1 b:=fun b hb=>(ex1.f b hb).1
   have FFc:∀ b,F b->Fc b:=fun b hb=>(exf.f b hb).1
   have ownMoved:∀ {b},movedB b->¬ Fc b/\¬ X.G b:=fun {b} hb=>by
    obtain ⟨id,c,hm,hc,ho⟩:=hb
    obtain ⟨a1,a2,_⟩:=gf.own' id c b hc (by rw [hHf id hm];exact ho)
    exact ⟨a1,a2⟩
   have FcG:∀ b,Fc b->X'.G b:=fun b hb=>⟨gf.fsz b hb,fun hm=>(ownMoved hm).1 hb⟩
   have notG:∀ b,¬ X'.G b->¬ X.G b:=fun b hb hX=>by
    have h1:=g.gsz b hX
    have h2:=g.size
    exact hb ⟨by omega,fun hm=>(ownMoved hm).2 hX⟩
   let F2:Nat->Prop:=fun b=>(if fr=true then Fc b else F b)\/(F1 b/\¬ X'.G b)
   have F2F1:∀ b,F2 b->F1 b:=fun b hb=>by
    rcases hb with hb|hb
    ·cases fr with
     |true=>exact FcF1 b hb
     |false=>exact FcF1 b (FFc b hb)
    ·exact hb.1
   have FF2:∀ b,F b->F2 b:=fun b hb=>by
    left
    cases fr with
    |true=>exact FFc b hb
    |false=>exact hb
   let β2:Nat->Option Conc:=fun id=>match idxOf id moved 0 with
    |some j=>β1 j
    |none=>if id0<=id/\id<id0+(n1 - moved.length) then β1 (moved.length+(id - id0)) else β id
   have Hm:∀ {id j},idxOf id moved 0=some j->mergeH H h1 moved id0 n1 id=(h1 j).map (renB (backOf moved id0)):=fun {id j} hj=>by unfold mergeH;rw [hj]
   have Hn:∀ {id},idxOf id moved 0=none->id0<=id/\id<id0+(n1 - moved.length)->mergeH H h1 moved id0 n1 id=(h1 (moved.length+(id - id0))).map (renB (backOf moved id0)):=fun {id} hj hn=>by unfold mergeH;rw [hj];simp only;rw [if_pos hn]
   have Ho:∀ {id},idxOf id moved 0=none->¬ (id0<=id/\id<id0+(n1 - moved.length))->mergeH H h1 moved id0 n1 id=H id:=fun {id} hj hn=>by unfold mergeH;rw [hj];simp only;rw [if_neg hn]
   have kinds:∀ {id c},β2 id=some c->(∃ k,β1 k=some c/\mergeH H h1 moved id0 n1 id=(h1 k).map (renB (backOf moved id0))/\backOf moved id0 k=id/\id∉rowIds lent)\/(β id=some c/\mergeH H h1 moved id0 n1 id=H id/\id∉moved):=by
    intro id c hc
    change (match idxOf id moved 0 with|some j=>β1 j|none=>if id0<=id/\id<id0+(n1 - moved.length) then β1 (moved.length+(id - id0)) else β id)=some c at hc
    cases hj:idxOf id moved 0 with
    |some j=>
     rw [hj] at hc
     have hmv:moved[j]?=some id:=by simpa using (idxOf_some hj).2
     exact .inl ⟨j,hc,Hm hj,by unfold backOf;rw [hmv],fun hl=>lentid id hl (List.mem_of_getElem? hmv)⟩
    |none=>
     rw [hj] at hc
     simp only at hc
     split at hc
     ·rename_i hn
      refine .inl ⟨_,hc,Hn hj hn,?_,fun hl=>?_⟩
      ·unfold backOf
       rw [List.getElem?_eq_none (by omega)]
       simp only;omega
      ·obtain ⟨c',hc'⟩:=hlentβ id hl
       rw [notnew hn.1 hn.2] at hc';cases hc'
     ·rename_i hn
      exact .inr ⟨hc,Ho hj hn,idxOf_none hj⟩
   have back:∀ k,∀ c,β1 k=some c->β2 (backOf moved id0 k)=some c:=fun k c hk=>by
    have hkn:=hp2 k (by rw [hk];intro e;cases e)
    cases hmv:moved[k]? with
    |some id=>
     have hb:backOf moved id0 k=id:=by unfold backOf;rw [hmv]
     rw [hb]
     show (match idxOf id moved 0 with|some j=>β1 j|none=>_)=some c
     rw [idxOf_get hnodup hmv,Nat.zero_add]
     exact hk
    |none=>
     have hb:backOf moved id0 k=id0+(k - moved.length):=by unfold backOf;rw [hmv]
     have hge:moved.length<=k:=by
      rcases Nat.lt_or_ge k moved.length with h|h
      ·rw [List.getElem?_eq_getElem h] at hmv;cases hmv
      ·exact h
     rw [hb]
     show (match idxOf (id0+(k - moved.length)) moved 0 with|some j=>β1 j|none=>if id0<=id0+(k - moved.length)/\id0+(k - moved.length)<id0+(n1 - moved.length) then β1 (moved.length+(id0+(k - moved.length) - id0)) else β (id0+(k - moved.length)))=some c
     have hnm:idxOf (id0+(k - moved.length)) moved 0=none:=by
      cases hj:idxOf (id0+(k - moved.length)) moved 0 with
      |none=>rfl
      |some j=>
       have:=lowid _ (List.mem_of_getElem? (by simpa using (idxOf_some hj).2))
       omega
     rw [hnm]
     simp only
     rw [if_pos (by omega)]
     rw [show moved.length+(id0+(k - moved.length) - id0)=k by omega]
     exact hk
   have trV:∀ {a v},RelV F1 w' β1 a v->(fr=false->hasRow lent=true->noSl a=true)->RelV F2 w' β2 (renA (backOf moved id0) a) v:=by
    intro a v hv hns
    by_cases hA:hasRow lent=true/\fr=false
    ·exact RelV.ren (fun b hb=>⟨hb,rfl⟩) (RelV.noSl (F':=F2) (w':=w') hv (hns hA.2 hA.1)) (fun k _ c hk=>back k c hk)
    ·refine RelV.ren (fun b hb=>⟨?_,rfl⟩) hv (fun k _ c hk=>back k c hk)
     rcases g1.fext b hb with h|h
     ·left
      cases hfr':fr with
      |true=>simpa using h
      |false=>
       have:hasRow lent=false:=by
        cases hh:hasRow lent with
        |false=>rfl
        |true=>exact absurd ⟨hh,hfr'⟩ hA
       simp only [Bool.false_eq_true,if_false]
       rw [←hFc0 this];exact h
     ·exact .inr ⟨hb,h⟩
   have trB:∀ {c blk},BRel F1 w' β1 c blk->(fr=false->hasRow lent=true->noSlB (some blk)=true)->BRel F2 w' β2 c (renB (backOf moved id0) blk):=by
    intro c blk hv hns
    by_cases hA:hasRow lent=true/\fr=false
    ·exact (hv.noSl (F':=F2) (hns hA.2 hA.1)).ren (fun b hb=>⟨hb,rfl⟩) (fun k _ c hk=>back k c hk) (fun _ _=>rfl)
    ·refine hv.ren (fun b hb=>⟨?_,rfl⟩) (fun k _ c hk=>back k c hk) (fun _ _=>rfl)
     rcases g1.fext b hb with h|h
     ·left
      cases hfr':fr with
      |true=>simpa using h
      |false=>
       have:hasRow lent=false:=by
        cases hh:hasRow lent with
        |false=>rfl
        |true=>exact absurd ⟨hh,hfr'⟩ hA
       simp only [Bool.false_eq_true,if_false]
       rw [←hFc0 this];exact h
     ·exact .inr ⟨hb,h⟩
   have nsl:fr=false->hasRow lent=true->noSl r=true/\∀ j,j<n1->noSlB (h1 j)=true:=by
    intro e1 e2
    rw [e1,e2] at hfr
    simp only [Bool.true_and,Bool.not_eq_false',Bool.and_eq_true,List.all_eq_true,List.mem_range] at hfr
    exact ⟨hfr.1,fun j hj=>hfr.2 j hj⟩
   have oldheap:∀ {id c b},β id=some c->Touch w c (H id) b->id∉moved->H id≠some .dead->w'.heap[b]?=w.heap[b]?:=by
    intro id c b hc hb hm hbl
    refine g1.frame b ⟨g.touchHeap hc hbl hb,fun hmb=>?_⟩
    obtain ⟨id',c',hm',hc',ho'⟩:=hmb
    exact g.apart hc' ho' hc (fun e=>hm (e▸hm')) hbl hb
   have exFF2:Ext F w β F2 w' β2:=by
    refine ⟨fun b hb=>⟨FF2 b hb,cellsAt_of_heap (g1.frame b (FcG b (FFc b hb)))⟩,fun id c hc=>?_⟩
    show (match idxOf id moved 0 with|some j=>β1 j|none=>if id0<=id/\id<id0+(n1 - moved.length) then β1 (moved.length+(id - id0)) else β id)=some c
    cases hj:idxOf id moved 0 with
    |some j=>
     have hmv:moved[j]?=some id:=by simpa using (idxOf_some hj).2
     simp only
     rw [hp1 j (by
      rcases Nat.lt_or_ge j moved.length with h|h
      ·exact h
      ·rw [List.getElem?_eq_none h] at hmv;cases hmv),hβc hmv]
     exact hc
    |none=>
     simp only
     rw [if_neg (fun hn=>by rw [notnew hn.1 hn.2] at hc;cases hc)]
     exact hc
   have exfF2:fr=true->Ext Fc w β F2 w' β2:=fun e=>⟨fun b hb=>⟨.inl (by rw [if_pos e];exact hb),cellsAt_of_heap (g1.frame b (FcG b hb))⟩,exFF2.b⟩
   have hH':∀ id,H' id=if fr=true/\id∈rowIds lent then frzB (mergeH H h1 moved id0 n1 id) else mergeH H h1 moved id0 n1 id:=by
    intro id
    simp only [zS,zP] at h
    obtain ⟨_,h,_⟩:=h
    rw [←h]
    cases fr with
    |true=>
     simp only [if_true]
     rw [freezeL_eq]
     simp only [List.contains_iff_mem,true_and]
    |false=>simp
   have ownk:∀ {id c b},β2 id=some c->Owned w' c (H' id) b->(∃ k,β1 k=some c/\Owned w' c (h1 k) b/\backOf moved id0 k=id)\/(β id=some c/\Owned w c (H id) b/\id∉moved/\(fr=true->id∉rowIds lent)):=by
    intro id c b hc ho
    rw [hH'] at ho
    have nofr:¬ (fr=true/\id∈rowIds lent):=fun hf=>by
     rw [if_pos hf] at ho
     rcases kinds hc with ⟨k,_,_,_,hl⟩|⟨hc',hmh,_⟩
     ·exact hl hf.2
     ·
      rw [hmh] at ho
      rcases lentRow id hf.2 with ⟨t,xs,frz,hrow⟩|⟨e,xs,hrow⟩
      ·rw [hrow] at ho;cases ho.1
      ·rw [hrow] at ho;cases ho.1
    rw [if_neg nofr] at ho
    rcases kinds hc with ⟨k,hk,hmh,hbk,_⟩|⟨hc',hmh,hm⟩
    ·left
     rw [hmh] at ho
     exact ⟨k,hk,Owned.renB.1 ho,hbk⟩
    ·right
     rw [hmh] at ho
     have hd:H id≠some .dead:=fun hd=>by have:=ho.1;rw [hd] at this;cases this
     exact ⟨hc',ho.congr fun b0 hb0=>cellsAt_of_heap (oldheap hc' (.inl hb0) hm hd),hm,fun e hl=>nofr ⟨e,hl⟩⟩
   have hx:x=renA (backOf moved id0) r:=by
    simp only [zS,zP] at h
    exact h.1.symm
   refine ⟨F2,β2,?_,exFF2,?_,?_⟩
   ·refine ⟨fun id c hc=>?_,fun id c b hc ho=>?_,fun id id' c c' b hc hc' ho ho'=>?_,fun b hb=>g1.fsz b (F2F1 b hb),fun b hb=>?_,fun b hb=>FF2 b (g.fmono b hb),fun b hb=>?_,g.gsz,?_,⟨g1.tame.1.trans g.tame.1,g1.tame.2.trans g.tame.2⟩⟩
    ·rcases kinds hc with ⟨k,hk,hmh,hbk,hl⟩|⟨hc',hmh,hm⟩
     ·obtain ⟨blk,hb1,hb2⟩:=g1.hr k c hk
      rw [hH',if_neg (fun e=>hl e.2),hmh,hb1]
      refine ⟨_,rfl,trB hb2 fun e1 e2=>?_⟩
      have:=(nsl e1 e2).2 k (hp2 k (by rw [hk];intro e;cases e))
      rw [hb1] at this
      exact this
     ·rw [hH',hmh]
      by_cases hf:fr=true/\id∈rowIds lent
      ·rw [if_pos hf]
       obtain ⟨blk,hb1,hb2⟩:=gf.hr id c hc'
       rw [freezeL_eq,if_pos (by simpa using hf.2)] at hb1
       have hnd:H id≠some .dead:=fun e=>by
        rcases lentRow id hf.2 with ⟨t,xs,frz,hrow⟩|⟨e',xs,hrow⟩<;>rw [hrow] at e<;>cases e
       refine ⟨blk,hb1,hb2.mono (exfF2 hf.1) fun b hb=>?_⟩
       refine oldheap hc' ?_ hm hnd
       have hbr:∃ t xs,blk=.row t xs true:=by
        rcases lentRow id hf.2 with ⟨t,xs,frz,hrow⟩|⟨e',xs,hrow⟩
        ·rw [hrow] at hb1;cases hb1;exact ⟨_,_,rfl⟩
        ·rw [hrow] at hb1;cases hb1;exact ⟨_,_,rfl⟩
       obtain ⟨t,xs,rfl⟩:=hbr
       exact hb.elim .inl fun h=>h.elim
      ·rw [if_neg hf]
       obtain ⟨blk,hb1,hb2⟩:=g.hr id c hc'
       refine ⟨blk,hb1,?_⟩
       by_cases hd:blk=.dead
       ·subst hd;trivial
       ·exact hb2.mono exFF2 fun b hb=>oldheap hc' (by rw [hb1];exact hb) hm (by rw [hb1];intro e;cases e;exact hd rfl)
    ·rcases ownk hc ho with ⟨k,hk,hok,_⟩|⟨hc',ho',hm,hl⟩
     ·obtain ⟨a1,a2,a3⟩:=g1.own' k c b hk hok
      exact ⟨fun hF=>a1 (F2F1 b hF),notG b a2,a3⟩
     ·obtain ⟨a1,a2,a3⟩:=g.own' id c b hc' ho'
      have hG:X'.G b:=⟨a3,fun hmb=>by
       obtain ⟨id',c',hm',hc'',ho''⟩:=hmb
       have:=g.uniq' id id' c c' b hc' hc'' ho' ho''
       subst this
       exact hm hm'⟩
      refine ⟨fun hF=>?_,a2,?_⟩
      ·rcases hF with hF|hF
       ·cases hfr':fr with
        |true=>
         rw [hfr'] at hF
         simp only [if_true] at hF
         have hl':=hl hfr'
         exact (gf.own' id c b hc' (by rw [freezeL_eq,if_neg (by simpa using hl')];exact ho')).1 hF
        |false=>
         rw [hfr'] at hF
         simp only [Bool.false_eq_true,if_false] at hF
         exact a1 hF
       ·exact hF.2 hG
      ·have:=g1.size
       change w.heap.size<=w'.heap.size at this
       omega
    ·have mixed:∀ {k c1 id2 c2},β1 k=some c1->Owned w' c1 (h1 k) b->β id2=some c2->Owned w c2 (H id2) b->id2∉moved->False:=fun {k c1 id2 c2} hk hok hc2 ho2 hm2=>by
      obtain ⟨_,a2,_⟩:=g1.own' k c1 b hk hok
      refine a2 ⟨(g.own' id2 c2 b hc2 ho2).2.2,fun hmb=>?_⟩
      obtain ⟨id3,c3,hm3,hc3,ho3⟩:=hmb
      have:=g.uniq' id2 id3 c2 c3 b hc2 hc3 ho2 ho3
      subst this
      exact hm2 hm3
     rcases ownk hc ho with ⟨k,hk,hok,hbk⟩|⟨hc1,ho1,hm1,_⟩
     ·rcases ownk hc' ho' with ⟨k',hk',hok',hbk'⟩|⟨hc2,ho2,hm2,_⟩
      ·have:=g1.uniq' k k' c c' b hk hk' hok hok'
       rw [←hbk,←hbk',this]
      ·exact (mixed hk hok hc2 ho2 hm2).elim
     ·rcases ownk hc' ho' with ⟨k',hk',hok',hbk'⟩|⟨hc2,ho2,hm2,_⟩
      ·exact (mixed hk' hok' hc1 ho1 hm1).elim
      ·exact g.uniq' id id' c c' b hc1 hc2 ho1 ho2
    ·rcases hb with hb|hb
     ·cases hfr':fr with
      |true=>
       rw [hfr'] at hb
       simp only [if_true] at hb
       exact gf.fext b hb
      |false=>
       rw [hfr'] at hb
       simp only [Bool.false_eq_true,if_false] at hb
       exact g.fext b hb
     ·exact .inr (notG b hb.2)
    ·have h2:=g.gsz b hb
     have h3:=g.size
     exact (g1.frame b ⟨by omega,fun hm=>(ownMoved hm).2 hb⟩).trans (g.frame b hb)
    ·have:=g1.size
     change w.heap.size<=w'.heap.size at this
     have:=g.size
     omega
   ·rw [hx]
    exact trV rv fun e1 e2=>(nsl e1 e2).1
   ·intro id hne
    cases hc:β2 id with
    |none=>exact absurd hc hne
    |some c=>
     change (match idxOf id moved 0 with|some j=>β1 j|none=>if id0<=id/\id<id0+(n1 - moved.length) then β1 (moved.length+(id - id0)) else β id)=some c at hc
     cases hj:idxOf id moved 0 with
     |some j=>
      rw [hj] at hc
      simp only at hc
      have hmv:moved[j]?=some id:=by simpa using (idxOf_some hj).2
      left
      rw [hp1 j (by
       rcases Nat.lt_or_ge j moved.length with h|h
       ·exact h
       ·rw [List.getElem?_eq_none h] at hmv;cases hmv),hβc hmv] at hc
      rw [hc];intro e;cases e
     |none=>
      rw [hj] at hc
      simp only at hc
      split at hc
      ·rename_i hn
       right
       exact ⟨hn.1,by unfold W;omega⟩
      ·left;rw [hc];intro e;cases e
  ·cases h
 ·cases h
end
end
section
section
variable {P:Program} {F:Nat->Prop} {w:World} {β:Nat->Option Conc}
theorem ofVal_rel (v:Value):RelV F w β (ofVal v) v:=by
 unfold ofVal
 split
 ·exact RelV.bool _
 ·split
  ·rename_i n h;exact RelV.int (toI_ofI .u8 n fun _=>h)
  ·exact .any _
 ·rename_i k n hk
  exact RelV.int (toI_ofI k n fun e=>absurd e hk)
 ·rename_i s
  have:=RelV.str (F:=F) (w:=w) (β:=β) s.data.toList
  simpa using this
 ·exact .one _ _ rfl .nilS
 ·exact .one _ _ rfl .nilP
 ·exact .one _ _ rfl .nilF
 ·exact .one _ _ rfl (.fn _ [] [] .nil)
 ·exact .any _
theorem LeftW.same {X H id0 a r} (g:Good X F w β H) (h:RelV F w β a r):LeftW X F w β H id0 a r w:=⟨F,β,g,.refl,h,fun _ hj=>.inl hj⟩
theorem run_v {s:Sem Value} {r:Value} {w':World} (h:s.run P w=.ok r w'):((do pure (Next.value (←s)):Sem Next)).run P w=.ok (.value r) w':=by
 simp [h,pure,Sem.run]
theorem run_u {s:Sem Unit} {w':World} (h:s.run P w=.ok () w'):((do s;pure Next.skip:Sem Next)).run P w=.ok .skip w':=by
 simp [h,pure,Sem.run]
theorem relVs_map {ρ:Operand->AV} {σ:Operand->Value} (hρ:∀ x,RelV F w β (ρ x) (σ x)):∀ (l:List Operand),RelVs F w β (l.map ρ) (l.map σ)
 | []=>.nil
 |x::l=>.cons _ _ _ _ (hρ x) (relVs_map hρ l)
theorem relParts_map {ρ:Operand->AV} {σ:Operand->Value} (hρ:∀ x,RelV F w β (ρ x) (σ x)):∀ (l:List (Nat×Operand)),RelParts F w β (l.map fun p=>(p.1,ρ p.2)) (l.map fun p=>(p.1,σ p.2))
 | []=>trivial
 |(i,x)::l=>⟨rfl,hρ x,relParts_map hρ l⟩
theorem relParts_mono {F' w' β'} (e:Ext F w β F' w' β'):∀ {l:List (Nat×AV)} {m:List (Nat×Value)},RelParts F w β l m->RelParts F' w' β' l m
 | [],[],_=>trivial
 |(_,_)::_,(_,_)::_,⟨h1,h2,h3⟩=>⟨h1,h2.mono e,relParts_mono e h3⟩
 | [],_::_,h=>h.elim
 |_::_,[],h=>h.elim
theorem RelVs.append:∀ {a b:List AV} {u v:List Value},RelVs F w β a u->RelVs F w β b v->RelVs F w β (a++b) (u++v)
 |_,_,_,_,.nil,h=>h
 |_,_,_,_,.cons a l v vs h1 h2,h=>.cons a _ v _ h1 (h2.append h)
theorem RelVs.get:∀ {a:List AV} {u:List Value},RelVs F w β a u->∀ {i:Nat} {x:AV},a[i]?=some x->∃ y,u[i]?=some y/\RelV F w β x y
 |_,_,.nil,i,x,h=>by simp at h
 |_,_,.cons a l v vs h1 h2,i,x,h=>by
  cases i with
  |zero=>simp at h;subst h;exact ⟨v,by simp,h1⟩
  |succ i=>simp at h ⊢;exact h2.get h
theorem sim_len {X H} (g:Good X F w β H) {T ty:TypeId} {a:AV} {n:Int} (h:lenOf P T H a=some n) {v:Value} (ha:RelV F w β a v):(Builtin.len_ #[T] ty #[v]).run P w=.ok (.int .i64 n) w:=by
 unfold lenOf at h
 have hd:∀ {m:Int} ,(goInt m)=.int .i64 m:=rfl
 split at h
 ·rename_i s hT
  cases h
  rw [ha.str_inv]
  unfold Builtin.len_
  simp only [und hT,List.getElem?_toArray,List.getElem?_cons_zero,Sem.run_bind,Result.andThen_ok,pure,Sem.run,goInt]
  simp [ByteArray.size]
 ·rename_i e t xs hT
  cases h
  rcases ha.dat_inv with ⟨_,hr⟩|⟨hm,_⟩
  ·obtain ⟨A,c,rfl,_⟩:=slice_elem hr
   unfold Builtin.len_
   simp only [und hT,List.getElem?_toArray,List.getElem?_cons_zero,Sem.run_bind,Result.andThen_ok,pure,Sem.run,goInt]
  ·simp [isMany] at hm
 ·rename_i m e x hT
  cases h
  unfold Builtin.len_
  simp only [und hT,List.getElem?_toArray,List.getElem?_cons_zero,Sem.run_bind,Result.andThen_ok,pure,Sem.run,goInt]
 ·rename_i e hT
  cases h
  rw [ha.nilS_inv]
  unfold Builtin.len_
  simp only [und hT,List.getElem?_toArray,List.getElem?_cons_zero,Sem.run_bind,Result.andThen_ok,pure,Sem.run,goInt]
  rfl
 ·rename_i e b t xs hT
  cases h
  obtain ⟨A,n,c,rfl,hr,_⟩:=ha.nz_inv
  obtain ⟨A,c,hv,_⟩:=slice_elem hr
  cases hv
  unfold Builtin.len_
  simp only [und hT,List.getElem?_toArray,List.getElem?_cons_zero,Sem.run_bind,Result.andThen_ok,pure,Sem.run,goInt]
 ·rename_i e id hT
  cases hA:arrV H id 0 with
  |none=>rw [hA] at h;cases h
  |some p=>
   obtain ⟨t,xs⟩:=p
   rw [hA] at h;cases h
   obtain ⟨c,t',len,rfl,hc,hsh,hle⟩:=ha.full_inv
   obtain ⟨h1,_⟩:=arrV_rel g hA hc
   have:len=xs.length:=by rw [hsh] at h1;simp [arrSh] at h1;omega
   subst this
   unfold Builtin.len_
   simp only [und hT,List.getElem?_toArray,List.getElem?_cons_zero,Sem.run_bind,Result.andThen_ok,pure,Sem.run,goInt]
 ·rename_i e id off lo hi hT
  cases h
  obtain ⟨c,m,t',A,cap,rfl,hc,hsh,h4,h5,h6,h7,h8⟩:=ha.sub_inv
  unfold Builtin.len_
  simp only [und hT,List.getElem?_toArray,List.getElem?_cons_zero,Sem.run_bind,Result.andThen_ok,pure,Sem.run,goInt]
  rw [Int.toNat_of_nonneg (by omega)]
 ·rename_i A x hT
  split at h
  ·rename_i m e hA
   cases h
   unfold Builtin.len_
   simp only [und hT,und hA,List.getElem?_toArray,List.getElem?_cons_zero,Sem.run_bind,Result.andThen_ok,pure,Sem.run,goInt]
  ·cases h
 ·cases h
theorem sim_min2 {mx:Bool} {a b c:AV} {u v:Value} (h:min2 mx a b=some c) (ha:RelV F w β a u) (hb:RelV F w β b v) :
  ∃ r,((if mx then Builtin.max2 else Builtin.min2) u v).run P w=.ok r w/\RelV F w β c r:=by
 unfold min2 at h
 split at h
 ·rename_i k x j y
  split at h
  ·rename_i e
   subst e
   cases h
   rw [ha.int_inv,hb.int_inv]
   cases mx with
   |true=>
    refine ⟨.int k (if toI k y>toI k x then toI k y else toI k x),by simp [Builtin.max2,pure,Sem.run],RelV.int ?_⟩
    simp only [if_true]
    rw [toI_ofI]
    intro e;subst e
    have:=toI_u8 x;have:=toI_u8 y
    split<;>assumption
   |false=>
    refine ⟨.int k (if toI k y<toI k x then toI k y else toI k x),by simp [Builtin.min2,pure,Sem.run],RelV.int ?_⟩
    simp only [Bool.false_eq_true,if_false]
    rw [toI_ofI]
    intro e;subst e
    have:=toI_u8 x;have:=toI_u8 y
    split<;>assumption
  ·cases h
 ·cases h
theorem sim_minL {mx:Bool}:∀ {l:List AV} {us:List Value} {a c:AV} {u:Value},minL mx l a=some c->RelVs F w β l us->RelV F w β a u ->
  ∃ r,(us.foldlM (if mx then Builtin.max2 else Builtin.min2) u).run P w=.ok r w/\RelV F w β c r
 | [],_,a,c,u,h,.nil,ha=>by simp only [minL] at h;cases h;exact ⟨u,by simp [pure,Sem.run],ha⟩
 |b::l,_,a,c,u,h,.cons _ _ v vs h1 h2,ha=>by
  simp only [minL] at h
  cases hm:min2 mx a b with
  |none=>rw [hm] at h;cases h
  |some d=>
   rw [hm] at h
   simp only [zb] at h
   obtain ⟨r,hr1,hr2⟩:=sim_min2 (P:=P) hm ha h1
   obtain ⟨r',hr3,hr4⟩:=sim_minL h h2 hr2
   refine ⟨r',?_,hr4⟩
   rw [List.foldlM_cons,Sem.run_bind,hr1]
   exact hr3
theorem Good.restrict {X H H2} {F2:Nat->Prop} {w2:World} {β2:Nat->Option Conc} (g:Good X F w β H) (g2:Good X F2 w2 β2 H2) (hβ:∀ id c,β id=some c->β2 id=some c/\H2 id=H id) (ex:Ext F w β F2 w2 β)
  (hw:∀ b,b<w.heap.size->w2.heap[b]?=w.heap[b]?):Good X F2 w2 β H:=by
 refine ⟨fun id c h=>?_,fun id c b h1 h2=>g2.own' id c b (hβ id c h1).1 (by rw [(hβ id c h1).2];exact h2),fun id id' c c' b h1 h2 h3 h4=>g2.uniq' id id' c c' b (hβ id c h1).1 (hβ id' c' h2).1 (by rw [(hβ id c h1).2];exact h3) (by rw [(hβ id' c' h2).2];exact h4),
  g2.fsz,g2.fext,g2.fmono,g2.frame,g2.gsz,g2.size,g2.tame⟩
 obtain ⟨blk,h1,h2⟩:=g.hr id c h
 refine ⟨blk,h1,?_⟩
 by_cases hd:blk=.dead
 ·subst hd;trivial
 ·exact h2.mono ex fun b hb=>hw b (g.touchHeap h (by rw [h1];intro e;cases e;exact hd rfl) (by rw [h1];exact hb))
theorem leavesD_dat:∀ (t:Ty) (x:t.D),∀ a∈leavesD t x,∃ t' x',a=.dat t' x'
 |.un,_,a,h=>by simp only [leavesD] at h;cases h
 |.pr a b,x,c,h=>by
  simp only [leavesD] at h
  rcases List.mem_append.1 h with h|h
  ·exact leavesD_dat a _ c h
  ·exact leavesD_dat b _ c h
 |.int k,x,a,h=>by simp only [leavesD,List.mem_singleton] at h;exact ⟨_,_,h⟩
 |.bool,x,a,h=>by simp only [leavesD,List.mem_singleton] at h;exact ⟨_,_,h⟩
 |.str,x,a,h=>by simp only [leavesD,List.mem_singleton] at h;exact ⟨_,_,h⟩
 |.sl e,x,a,h=>by simp only [leavesD,List.mem_singleton] at h;exact ⟨_,_,h⟩
 |.ar n e,x,a,h=>by simp only [leavesD,List.mem_singleton] at h;exact ⟨_,_,h⟩
theorem dat_leaves:∀ (t:Ty) (x:t.D),∀ a∈(AV.dat t x).leaves,∃ t' x',a=.dat t' x'
 |.pr a b,x,c,h=>leavesD_dat (.pr a b) x c h
 |.un,_,a,h=>by cases h
 |.int k,x,a,h=>⟨_,_,List.mem_singleton.1 h⟩
 |.bool,x,a,h=>⟨_,_,List.mem_singleton.1 h⟩
 |.str,x,a,h=>⟨_,_,List.mem_singleton.1 h⟩
 |.sl e,x,a,h=>⟨_,_,List.mem_singleton.1 h⟩
 |.ar n e,x,a,h=>⟨_,_,List.mem_singleton.1 h⟩
theorem sim_buildLit {X H} (g:Good X F w β H) {id0:Nat} (hid:β id0=none) {T e:TypeId} {u:Ty} (hT:elemTy P T=some (e,u)) {z:u.D} (hz:zeroD P e u=some z) {n:Nat} (hn:¬ (2 ^ 24<n*u.sz)) (hn0:n*u.sz≠0)
  {ps:List (Nat×AV)} {qs:Array (Nat×Value)} (hpq:RelParts F w β ps qs.toList) (hidx:∀ p∈ps,p.1<n) (hrow:∀ id,∀ p∈ps,AV.full id∉p.2.leaves/\∀ o l h,AV.sub id o l h∉p.2.leaves) {xs:List u.D} (hx:setElems H u ps (List.replicate n z)=some xs) :
  ∃ r w',(Instr.buildSlice T n qs).run P w=.ok r w'/\Left X F w β H id0 (.dat (.sl u) xs) r w':=by
 obtain ⟨hT1,hT2⟩:=elemTy_some hT
 obtain ⟨_,⟨inf,hi⟩,hsz,_,_⟩:=tyC_some hT2
 obtain ⟨zv,hzv,hzr⟩:=zeroD_rep (F:=F) (w:=w) hz
 obtain ⟨hz1,_⟩:=zero_run (P:=P) (w:=w) hzv
 have hzs:zv.cells.size=u.sz:=by have:=rep_len _ _ _ hzr;simpa using this
 have hrz:=rep_zeros hzr n
 have hinit:(((Array.range (n*u.sz)).map fun i=>zv.cells[i % zv.cells.size]!)).toList=(List.range (n*zv.cells.size)).map fun i=>zv.cells[i % zv.cells.size]!:=by simp [hzs]
 obtain ⟨arr,h1,h2⟩:=setElems_fill g ps qs.toList _ xs ((Array.range (n*u.sz)).map fun i=>zv.cells[i % zv.cells.size]!) hpq hx (by rw [hinit];exact hrz) (fun p hp id hm=>by
  rcases hm with hm|⟨o,l,h,hm⟩
  ·exact absurd hm (hrow id p hp).1
  ·exact absurd hm ((hrow id p hp).2 o l h)) hidx
 have hxl:=(rep_ar_iff.1 h2).1
 obtain ⟨c,g',ex,rv⟩:=new_row g hid (t:=u) (xs:=xs) (vs:=arr.toList) (rest:=[]) (cap:=n) (by rw [hxl];exact h2) (by omega) (by simp [(rep_ar_iff.1 h2).2.1] ) e (0,0) (fun o _=>by simp)
 rw [hxl] at rv
 obtain ⟨F',g2,ex2,hF⟩:=g'.freeze (id:=id0) (t:=u) (xs:=xs) (fr:=false) (by rw [zJ])
 have rv2:=rv.mono ex2
 have hb:∀ b,F b->F' b/\cellsAt { w with heap:=w.heap.push (.cells (arr.toList++[]).toArray e (0,0)) } b=cellsAt w b:=fun b h=>by
  obtain ⟨a1,a2⟩:=ex.f b h
  exact ⟨(ex2.f b a1).1,a2⟩
 have exb:Ext F w β F' { w with heap:=w.heap.push (.cells (arr.toList++[]).toArray e (0,0)) } β:=⟨hb,fun _ _ h=>h⟩
 have g3:=g.restrict g2 (fun id c' h=>by
  have hne:id≠id0:=fun e=>by rw [e,hid] at h;cases h
  exact ⟨by rw [upd_ne hne];exact h,by rw [zH hne,zH hne]⟩) exb (fun b hb=>heap_push_lt hb)
 have hdat:RelV F' { w with heap:=w.heap.push (.cells (arr.toList++[]).toArray e (0,0)) } β (.dat (.sl u) xs) (.slice (some ⟨w.heap.size,0,none⟩) n n):=by
  have hp:pack ((H.set id0 (.row u xs false)).set id0 (.row u xs true)) true (.sl u) (.full id0)=some xs:=by
   have ha:arrAt ((H.set id0 (.row u xs false)).set id0 (.row u xs true)) id0 0=some ⟨u,xs⟩:=by unfold arrAt;rw [zJ];rfl
   unfold pack
   simp [isVal,AV.leaves,packU,isRow,asList,elemsOf,zJ,castL,ha]
  have hrep:=pack_rep g2 hp rv2 (fun _ id hm=>by
   have:id=id0:=by
    rcases hm with hm|⟨o,l,h,hm⟩
    ·simp [AV.leaves] at hm;exact hm
    ·simp [AV.leaves] at hm
   subst this
   exact ⟨fun ⟨e',xs',h⟩=>(by rw [zJ] at h;cases h),fun _ c' b hc hb'=>hF c' b hc hb'⟩)
  exact RelV.ofDat hrep (fun h=>by cases h) (fun _=>by simp [Value.cells])
 refine ⟨.slice (some ⟨w.heap.size,0,none⟩) n n,_,?_,F',β,g3,exb,hdat,fun j hj=>.inl hj⟩
 unfold Instr.buildSlice
 simp only [Sem.run_bind,und hT1,Result.andThen_ok,sizeOf_run hi,hsz]
 rw [if_neg (by omega)]
 simp only [pure,Sem.run,Result.andThen_ok,Sem.run_bind]
 rw [if_neg hn0]
 simp only [pure,Sem.run,Result.andThen_ok,Sem.run_bind,hz1,h1,newRow_run]
 simp
theorem sim_makeDat {X H} (g:Good X F w β H) {id0:Nat} (hid:β id0=none) {T e:TypeId} {t:Ty} (hT:elemTy P T=some (e,t)) {z:t.D} (hz:zeroD P e t=some z) {i j:IntKind} {x y:Int}
  (h0:0<=x) (h1:x<=y) (h2:y.toNat*P.bytesOf e<=maxBytes) (hb0:P.bytesOf e≠0) :
  ∃ r w',(Instr.makeSlice T (.int i x) (.int j y)).run P w=.ok r w'/\Left X F w β H id0 (.dat (.sl t) (List.replicate x.toNat z)) r w':=by
 obtain ⟨hT1,hT2⟩:=elemTy_some hT
 obtain ⟨_,⟨inf,hinf⟩,hsz,_,_⟩:=tyC_some hT2
 obtain ⟨zv,hzv,hzr⟩:=zeroD_rep (F:=F) (w:=w) hz
 obtain ⟨hz1,_⟩:=zero_run (w:=w) hzv
 have hzs:zv.cells.size=t.sz:=by have:=rep_len _ _ _ hzr;simpa using this
 have hbytes:P.bytesOf e=inf.bytes:=by simp [Program.bytesOf,hinf]
 have hy:y<=9223372036854775807:=by
  have:y.toNat*1<=y.toNat*P.bytesOf e:=Nat.mul_le_mul_left _ (by omega)
  unfold maxBytes at h2;omega
 have hwx:IntKind.i64.wrap x=x:=by simp [IntKind.wrap,IntKind.signed,IntKind.bits];omega
 have hwy:IntKind.i64.wrap y=y:=by simp [IntKind.wrap,IntKind.signed,IntKind.bits];omega
 have hrz:=rep_zeros (F:=F) (w:=w) hzr x.toNat
 have hcells:∃ rest,((Array.range (y.toNat*t.sz)).map fun i=>zv.cells[i % zv.cells.size]!)=(((List.range (x.toNat*zv.cells.size)).map fun i=>zv.cells[i % zv.cells.size]!)++rest).toArray:=by
  refine ⟨((List.range (y.toNat*t.sz)).map fun i=>zv.cells[i % zv.cells.size]!).drop (x.toNat*t.sz),?_⟩
  apply Array.ext'
  rw [Array.toList_map,Array.toList_range]
  rw [show x.toNat*zv.cells.size=x.toNat*t.sz by rw [hzs]]
  have hm:x.toNat*t.sz<=y.toNat*t.sz:=Nat.mul_le_mul_right _ (by omega)
  have:(List.range (x.toNat*t.sz)).map (fun i=>zv.cells[i % zv.cells.size]!)=((List.range (y.toNat*t.sz)).map fun i=>zv.cells[i % zv.cells.size]!).take (x.toNat*t.sz):=by
   rw [←List.map_take,List.take_range,Nat.min_eq_left hm]
  rw [this];simp
 obtain ⟨rest,hrest⟩:=hcells
 obtain ⟨c,g',ex,rv⟩:=new_row g hid (t:=t) (xs:=List.replicate x.toNat z) (cap:=y.toNat) (rest:=rest) (by rw [List.length_replicate];exact hrz) (by simp;omega) (by
  have:=congrArg Array.size hrest
  simp only [Array.size_map,Array.size_range,List.size_toArray] at this
  exact this.symm) e (0,0) (fun o _=>by simp)
 rw [List.length_replicate] at rv
 obtain ⟨F',g2,ex2,hF⟩:=g'.freeze (id:=id0) (t:=t) (xs:=List.replicate x.toNat z) (fr:=false) (by rw [zJ])
 have rv2:=rv.mono ex2
 have hb:∀ b,F b->F' b/\cellsAt { w with heap:=w.heap.push (.cells ((((List.range (x.toNat*zv.cells.size)).map fun i=>zv.cells[i % zv.cells.size]!))++rest).toArray e (0,0)) } b=cellsAt w b:=fun b h=>by
  obtain ⟨a1,a2⟩:=ex.f b h
  exact ⟨(ex2.f b a1).1,a2⟩
 have exb:Ext F w β F' { w with heap:=w.heap.push (.cells ((((List.range (x.toNat*zv.cells.size)).map fun i=>zv.cells[i % zv.cells.size]!))++rest).toArray e (0,0)) } β:=⟨hb,fun _ _ h=>h⟩
 have g3:=g.restrict g2 (fun id c' h=>by
  have hne:id≠id0:=fun e=>by rw [e,hid] at h;cases h
  exact ⟨by rw [upd_ne hne];exact h,by rw [zH hne,zH hne]⟩) exb (fun b hb=>heap_push_lt hb)
 have hdat:RelV F' { w with heap:=w.heap.push (.cells ((((List.range (x.toNat*zv.cells.size)).map fun i=>zv.cells[i % zv.cells.size]!))++rest).toArray e (0,0)) } β (.dat (.sl t) (List.replicate x.toNat z)) (.slice (some ⟨w.heap.size,0,none⟩) x.toNat y.toNat):=by
  have hp:pack ((H.set id0 (.row t (List.replicate x.toNat z) false)).set id0 (.row t (List.replicate x.toNat z) true)) true (.sl t) (.full id0)=some (List.replicate x.toNat z):=by
   have ha:arrAt ((H.set id0 (.row t (List.replicate x.toNat z) false)).set id0 (.row t (List.replicate x.toNat z) true)) id0 0=some ⟨t,List.replicate x.toNat z⟩:=by unfold arrAt;rw [zJ];rfl
   unfold pack
   simp [isVal,AV.leaves,packU,isRow,asList,elemsOf,zJ,castL,ha]
  have hrep:=pack_rep g2 hp rv2 (fun _ id hm=>by
   have:id=id0:=by
    rcases hm with hm|⟨o,l,h,hm⟩
    ·simp [AV.leaves] at hm;exact hm
    ·simp [AV.leaves] at hm
   subst this
   exact ⟨fun ⟨e',xs',h⟩=>(by rw [zJ] at h;cases h),fun _ c' b hc hb'=>hF c' b hc hb'⟩)
  exact RelV.ofDat hrep (fun h=>by cases h) (fun _=>by simp [Value.cells])
 refine ⟨.slice (some ⟨w.heap.size,0,none⟩) x.toNat y.toNat,_,?_,F',β,g3,exb,hdat,fun j hj=>.inl hj⟩
 unfold Instr.makeSlice
 have hti:(typeInfo e).run P w=.ok inf w:=by simp [typeInfo,hinf]
 simp only [Sem.run_bind,und hT1,Result.andThen_ok,asInt,asIntOf,pure,Sem.run,hti,hwx,hwy]
 have hle:(inf.bytes:Int)*y<=140737488355328:=by
  rw [hbytes] at h2
  unfold maxBytes at h2
  have h3:((y.toNat*inf.bytes:Nat):Int)<=((140737488355328:Nat):Int):=Int.ofNat_le.mpr h2
  rw [Int.natCast_mul,Int.toNat_of_nonneg (by omega),Int.mul_comm] at h3
  generalize (inf.bytes:Int)*y=q at h3 ⊢
  omega
 have h48:(2:Int) ^ 48=281474976710656:=rfl
 have a1:decide (y<0)=false:=zF (by omega)
 have a2:decide ((inf.bytes:Int)*y>2 ^ 48)=false:=zF (by rw [h48];omega)
 have a3:decide (x<0)=false:=zF (by omega)
 have a4:decide (x>y)=false:=zF (by omega)
 rw [if_neg (by rw [a1,a2,a3,a4];simp)]
 simp only [askRoom]
 have hroom:¬ (y.toNat*inf.bytes>roomBytes):=by rw [hbytes] at h2;unfold maxBytes at h2;unfold roomBytes;omega
 rw [if_neg hroom]
 simp only [pure,Sem.run_bind,Sem.run,Result.andThen_ok,sizeOf_run hinf,hsz]
 by_cases hn:y.toNat*t.sz=0
 ·rw [if_pos hn]
  simp only [pure,Sem.run,Result.andThen_ok,Sem.run_bind,newRow_run]
  rw [hn] at hrest ⊢
  have e0:((Array.range 0).map fun i=>(#[]:Array Value)[i % (#[]:Array Value).size]!)=((Array.range 0).map fun i=>zv.cells[i % zv.cells.size]!):=by simp
  rw [e0,hrest]
 ·rw [if_neg hn]
  simp only [pure,Sem.run,Result.andThen_ok,Sem.run_bind,hz1,newRow_run]
  rw [hrest]
theorem sim_buildNil {X H} (g:Good X F w β H) {id0:Nat} (hid:β id0=none) {T e:TypeId} {u:Ty} (hT:elemTy P T=some (e,u)) :
  ∃ r w',(Instr.buildSlice T 0 #[]).run P w=.ok r w'/\Left X F w β (H.set id0 (.row u [] false)) id0 (.full id0) r w':=by
 obtain ⟨hT1,hT2⟩:=elemTy_some hT
 obtain ⟨_,⟨inf,hi⟩,hsz,_,_⟩:=tyC_some hT2
 obtain ⟨c,g',ex,rv⟩:=new_row g hid (t:=u) (xs:=[]) (vs:=[]) (rest:=[]) (cap:=0) (rep_ar_iff.2 ⟨rfl,by simp,fun i hi=>by simp at hi⟩) (Nat.le_refl _) (by simp) e (0,0) (fun o ho=>by simp at ho)
 refine ⟨.slice (some ⟨w.heap.size,0,none⟩) 0 0,_,?_,F,upd β id0 c,g',ex,rv,fun j hj=>?_⟩
 ·unfold Instr.buildSlice
  simp only [Sem.run_bind,und hT1,Result.andThen_ok,sizeOf_run hi,hsz]
  rw [if_neg (by omega)]
  simp only [pure,Sem.run,Result.andThen_ok,Sem.run_bind]
  rw [if_pos (by omega)]
  simp [pure,Sem.run,Result.andThen_ok,Sem.run_bind,Instr.fill,newRow_run]
  rw [show Array.range 0=#[] from by decide,Array.map_empty]
 ·by_cases e':j=id0
  ·exact .inr e'
  ·left;rw [upd_ne e'] at hj;exact hj
theorem sim_buildSlice {X H} (g:Good X F w β H) {id0:Nat} (hid:β id0=none) {T e:TypeId} {u:Ty} (hT:elemTy P T=some (e,u)) {z:u.D} (hz:zeroD P e u=some z) {n:Nat} (hn:¬ (2 ^ 24<n*u.sz)) (hn0:n*u.sz≠0)
  {ps:List (Nat×AV)} {qs:Array (Nat×Value)} (hpq:RelParts F w β ps qs.toList) (hidx:∀ p∈ps,p.1<n) {ls:List AV} (hls:∀ p∈ps,∀ a∈p.2.leaves,a∈ls) {xs:List u.D} (hx:setElems (freezeL ls H) u ps (List.replicate n z)=some xs) :
  ∃ r w',(Instr.buildSlice T n qs).run P w=.ok r w'/\Left X F w β ((freezeL ls H).set id0 (.row u xs false)) id0 (.full id0) r w':=by
 obtain ⟨hT1,hT2⟩:=elemTy_some hT
 obtain ⟨_,⟨inf,hi⟩,hsz,_,_⟩:=tyC_some hT2
 obtain ⟨F1,g1,ex1,hF1⟩:=g.freezeL ls
 obtain ⟨zv,hzv,hzr⟩:=zeroD_rep (F:=F1) (w:=w) hz
 obtain ⟨hz1,_⟩:=zero_run (P:=P) (w:=w) hzv
 have hzs:zv.cells.size=u.sz:=by have:=rep_len _ _ _ hzr;simpa using this
 have hrz:=rep_zeros hzr n
 have hinit:(((Array.range (n*u.sz)).map fun i=>zv.cells[i % zv.cells.size]!)).toList=(List.range (n*zv.cells.size)).map fun i=>zv.cells[i % zv.cells.size]!:=by simp [hzs]
 obtain ⟨arr,h1,h2⟩:=setElems_fill g1 ps qs.toList _ xs ((Array.range (n*u.sz)).map fun i=>zv.cells[i % zv.cells.size]!) (relParts_mono ex1 hpq) hx (by rw [hinit];exact hrz) (fun p hp=>hF1.mono fun a ha=>hls p hp a ha) hidx
 have hxl:=(rep_ar_iff.1 h2).1
 obtain ⟨c,g',ex,rv⟩:=new_row g1 hid (t:=u) (xs:=xs) (vs:=arr.toList) (rest:=[]) (cap:=n) (by rw [hxl];exact h2) (by omega) (by simp [(rep_ar_iff.1 h2).2.1] ) e (0,0) (fun o _=>by simp)
 refine ⟨.slice (some ⟨w.heap.size,0,none⟩) n n,_,?_,F1,upd β id0 c,g',ex1.trans ex,by rw [hxl] at rv;exact rv,fun j hj=>?_⟩
 ·unfold Instr.buildSlice
  simp only [Sem.run_bind,und hT1,Result.andThen_ok,sizeOf_run hi,hsz]
  rw [if_neg (by omega)]
  simp only [pure,Sem.run,Result.andThen_ok,Sem.run_bind]
  rw [if_neg hn0]
  simp only [pure,Sem.run,Result.andThen_ok,Sem.run_bind,hz1,h1,newRow_run]
  simp
 ·by_cases e':j=id0
  ·exact .inr e'
  ·left;rw [upd_ne e'] at hj;exact hj
end
end
section
section
variable {F:Nat->Prop} {w:World} {β:Nat->Option Conc} {ho ho':Option Nat}
theorem repO_len {t:Ty} {off:Nat} {x:t.D} {vs:List Value} (h:repO F w ho off t x vs):vs.length=t.sz:=repO_len0 t off x vs h
theorem repO_hole:∀ (t:Ty) (off:Nat) (x:t.D) (vs:List Value),repO F w ho off t x vs->(∀ k,k<t.sz->ho=some (off+k)->ho'=some (off+k))->repO F w ho' off t x vs
 |.sl e,off,xs,vs,h,hh=>by
  simp only [repO] at h ⊢
  obtain ⟨A,n,c,h1,h2⟩:=h
  exact ⟨A,n,c,h1,fun hne=>h2 fun e=>hne (by simpa using hh 0 (by simp [Ty.sz]) (by simpa using e))⟩
 |.pr a b,off,x,vs,h,hh=>by
  simp only [repO] at h ⊢
  obtain ⟨us,ws,h0,h1,h2⟩:=h
  exact ⟨us,ws,h0,repO_hole a _ _ _ h1 fun k hk e=>hh k (by simp [Ty.sz];omega) e,repO_hole b _ _ _ h2 fun k hk e=>by
   have:=hh (a.sz+k) (by simp [Ty.sz];omega) (by rw [←Nat.add_assoc];exact e)
   rw [Nat.add_assoc];exact this⟩
 |.int _,_,_,_,h,_=>by simpa only [repO] using h
 |.bool,_,_,_,h,_=>by simpa only [repO] using h
 |.str,_,_,_,h,_=>by simpa only [repO] using h
 |.un,_,_,_,h,_=>by simpa only [repO] using h
 |.ar _ _,_,_,_,h,_=>by simpa only [repO] using h
theorem repO_flat:∀ (t:Ty) (off:Nat) (x:t.D) (vs:List Value),t.hasSl=false->(repO F w ho off t x vs↔rep F w t x vs)
 |.sl _,_,_,_,h=>by cases h
 |.pr a b,off,x,vs,h=>by
  simp only [Ty.hasSl,Bool.or_eq_false_iff] at h
  simp only [repO,rep]
  constructor
  ·rintro ⟨us,ws,h0,h1,h2⟩
   exact ⟨us,ws,h0,(repO_flat a _ _ _ h.1).1 h1,(repO_flat b _ _ _ h.2).1 h2⟩
  ·rintro ⟨us,ws,h0,h1,h2⟩
   exact ⟨us,ws,h0,(repO_flat a _ _ _ h.1).2 h1,(repO_flat b _ _ _ h.2).2 h2⟩
 |.int _,_,_,_,_=>by simp only [repO]
 |.bool,_,_,_,_=>by simp only [repO]
 |.str,_,_,_,_=>by simp only [repO]
 |.un,_,_,_,_=>by simp only [repO]
 |.ar _ _,_,_,_,_=>by simp only [repO]
theorem proj_repO_sl {u:Ty}:∀ (t:Ty) (off:Nat) (x:t.D) (vs:List Value) (o:Nat) (ys:List u.D),repO F w ho off t x vs->proj t x o (.sl u)=some ys->deepK t=true ->
  u.hasSl=false/\o<t.sz/\∃ A n c,vs[o]?=some (.slice A n c)/\(ho≠some (off+o)->OwnS F w u ys A n c):=by
 intro t
 have flat:∀ (t:Ty) (x:t.D) (o:Nat) (ys:List u.D),(∀ a b,t≠.pr a b)->(∀ e,t≠.sl e)->proj t x o (.sl u)=some ys->False:=fun t x o ys h1 h2 h=>by
  obtain ⟨_,h⟩:=proj_leaf h1 h
  obtain ⟨e,_⟩:=cast'_some h
  exact h2 _ e
 induction t with
 |pr a b iha ihb=>
  intro off x vs o ys hr h hd
  simp only [deepK,Bool.and_eq_true] at hd
  simp only [proj] at h
  rw [if_neg (by simp)] at h
  simp only [repO] at hr
  obtain ⟨us,ws,rfl,h1,h2⟩:=hr
  have hl:=repO_len h1
  split at h
  ·obtain ⟨q1,q2,A,n,c,q3,q4⟩:=iha _ _ _ _ _ h1 h hd.1
   exact ⟨q1,by simp [Ty.sz];omega,A,n,c,by rw [List.getElem?_append_left (by omega)];exact q3,q4⟩
  ·obtain ⟨q1,q2,A,n,c,q3,q4⟩:=ihb _ _ _ _ _ h2 h hd.2
   refine ⟨q1,by simp [Ty.sz];omega,A,n,c,by rw [List.getElem?_append_right (by omega),hl];exact q3,fun hne=>q4 ?_⟩
   rw [show off+a.sz+(o - a.sz)=off+o by omega];exact hne
 |sl e=>
  intro off x vs o ys hr h hd
  obtain ⟨rfl,h9⟩:=proj_leaf (by intro a b;simp) h
  obtain ⟨e',he⟩:=cast'_some h9
  cases e'
  cases he
  simp only [deepK,Bool.not_eq_true'] at hd
  simp only [repO] at hr
  obtain ⟨A,n,c,rfl,h2⟩:=hr
  exact ⟨hd,by simp [Ty.sz],A,n,c,rfl,fun hne=>h2 (by simpa using hne)⟩
 |_=>
  intro off x vs o ys hr h hd
  exact (flat _ x o ys (by intro a b;simp) (by intro e;simp) h).elim
theorem inj_repO_sl {u:Ty} {A:Option Addr} {n c:Nat}:∀ (t:Ty) (off:Nat) (x:t.D) (vs:List Value) (o:Nat) (ys:List u.D) (y:t.D),repO F w ho off t x vs->inj t x o (.sl u) ys=some y->(∀ k,k<t.sz->ho=some (off+k)->k=o)->OwnS F w u ys A n c ->
  o<t.sz/\(∃ A' n' c',vs[o]?=some (.slice A' n' c'))/\repO F w none off t y (vs.set o (.slice A n c)):=by
 intro t
 induction t with
 |pr a b iha ihb=>
  intro off x vs o ys y hr h hh hown
  simp only [inj] at h
  rw [if_neg (by simp)] at h
  simp only [repO] at hr
  obtain ⟨us,ws,rfl,h1,h2⟩:=hr
  have hl:=repO_len h1
  split at h
  ·rename_i hlt
   obtain ⟨z,hz,rfl⟩:=zM.1 h
   obtain ⟨q1,⟨A',n',c',q2⟩,q3⟩:=iha _ _ _ _ _ _ h1 hz (fun k hk e=>hh k (by simp [Ty.sz];omega) e) hown
   refine ⟨by simp [Ty.sz];omega,⟨A',n',c',by rw [List.getElem?_append_left (by omega)];exact q2⟩,?_⟩
   simp only [repO]
   refine ⟨_,ws,by rw [List.set_append_left _ _ (by omega)],q3,repO_hole b _ _ _ h2 fun k hk e=>?_⟩
   have:=hh (a.sz+k) (by simp [Ty.sz];omega) (by rw [←Nat.add_assoc];exact e)
   omega
  ·rename_i hlt
   obtain ⟨z,hz,rfl⟩:=zM.1 h
   obtain ⟨q1,⟨A',n',c',q2⟩,q3⟩:=ihb _ _ _ _ _ _ h2 hz (fun k hk e=>by
    have:=hh (a.sz+k) (by simp [Ty.sz];omega) (by rw [←Nat.add_assoc];exact e)
    omega) hown
   refine ⟨by simp [Ty.sz];omega,⟨A',n',c',by rw [List.getElem?_append_right (by omega),hl];exact q2⟩,?_⟩
   simp only [repO]
   refine ⟨us,_,by rw [List.set_append_right _ _ (by omega),hl],repO_hole a _ _ _ h1 fun k hk e=>?_,q3⟩
   have:=hh k (by simp [Ty.sz];omega) e
   omega
 |sl e=>
  intro off x vs o ys y hr h hh hown
  obtain ⟨rfl,h9⟩:=inj_leaf (by intro a b;simp) h
  obtain ⟨e',he⟩:=cast'_some h9
  cases e'
  cases he
  simp only [repO] at hr
  obtain ⟨A',n',c',rfl,h2⟩:=hr
  refine ⟨by simp [Ty.sz],⟨A',n',c',rfl⟩,?_⟩
  simp only [repO]
  exact ⟨A,n,c,rfl,fun _=>hown⟩
 |_=>
  intro off x vs o ys y hr h hh hown
  obtain ⟨rfl,h9⟩:=inj_leaf (by intro a b;simp) h
  obtain ⟨e,_⟩:=cast'_some h9
  cases e
theorem proj_repO_flat {u:Ty} (hu:u.hasSl=false):∀ (t:Ty) (off:Nat) (x:t.D) (vs:List Value) (o:Nat) (y:u.D),repO F w ho off t x vs->proj t x o u=some y->deepK t=true ->
  o+u.sz<=vs.length/\rep F w u y ((vs.drop o).take u.sz):=by
 intro t
 induction t with
 |pr a b iha ihb=>
  intro off x vs o y hr h hd
  simp only [deepK,Bool.and_eq_true] at hd
  simp only [proj] at h
  split at h
  ·rename_i h0
   obtain ⟨rfl,rfl⟩:=h0
   have hr':=(repO_flat _ _ _ _ hu).1 hr
   obtain ⟨_,hr''⟩:=cast'_rep h hr'
   have:=rep_len _ _ _ hr'
   exact ⟨by omega,by simpa [←this] using hr''⟩
  ·simp only [repO] at hr
   obtain ⟨us,ws,rfl,h1,h2⟩:=hr
   have hl:=repO_len h1
   split at h
   ·obtain ⟨q1,q2⟩:=iha _ _ _ _ _ h1 h hd.1
    refine ⟨by simp;omega,?_⟩
    rw [List.drop_append_of_le_length (by omega),List.take_append_of_le_length (by simp;omega)];exact q2
   ·obtain ⟨q1,q2⟩:=ihb _ _ _ _ _ h2 h hd.2
    refine ⟨by simp;omega,?_⟩
    rw [List.drop_append,List.drop_of_length_le (by omega),hl];exact q2
 |sl e=>
  intro off x vs o y hr h hd
  obtain ⟨rfl,h9⟩:=proj_leaf (by intro a b;simp) h
  obtain ⟨e',_⟩:=cast'_some h9
  subst e'
  cases hu
 |_=>
  intro off x vs o y hr h hd
  exact proj_rep _ x vs o u y (by simpa only [repO] using hr) h
theorem inj_repO_flat {u:Ty} (hu:u.hasSl=false) {v:u.D} {us':List Value} (hv:rep F w u v us'):∀ (t:Ty) (off:Nat) (x:t.D) (vs:List Value) (o:Nat) (y:t.D),repO F w ho off t x vs->inj t x o u v=some y->deepK t=true ->
  o+u.sz<=vs.length/\(∀ k,o<=k->k<o+u.sz->∀ A n c,vs[k]?≠some (.slice A n c))/\repO F w ho off t y (splice vs o us'):=by
 have lu:=rep_len _ _ _ hv
 intro t
 induction t with
 |pr a b iha ihb=>
  intro off x vs o y hr h hd
  have hd0:=hd
  simp only [deepK,Bool.and_eq_true] at hd
  simp only [inj] at h
  split at h
  ·rename_i h0
   obtain ⟨rfl,rfl⟩:=h0
   have hr':=(repO_flat _ _ _ _ hu).1 hr
   obtain ⟨_,hv'⟩:=cast'_rep h hv
   have:=rep_len _ _ _ hr'
   refine ⟨by omega,fun k _ _ A n c=>noSl_cells _ _ _ hr' hu k A n c,?_⟩
   rw [splice_all _ _ (by omega)]
   exact (repO_flat _ _ _ _ hu).2 hv'
  ·simp only [repO] at hr
   obtain ⟨us,ws,rfl,h1,h2⟩:=hr
   have hl:=repO_len h1
   split at h
   ·obtain ⟨z,hz,rfl⟩:=zM.1 h
    obtain ⟨q1,q2,q3⟩:=iha _ _ _ _ _ h1 hz hd.1
    refine ⟨by simp;omega,fun k hk1 hk2 A n c=>by rw [List.getElem?_append_left (by omega)];exact q2 k hk1 hk2 A n c,?_⟩
    simp only [repO]
    refine ⟨_,ws,?_,q3,h2⟩
    unfold splice
    rw [List.take_append_of_le_length (by omega),List.drop_append_of_le_length (by omega)]
    simp
   ·rename_i hge
    obtain ⟨z,hz,rfl⟩:=zM.1 h
    obtain ⟨q1,q2,q3⟩:=ihb _ _ _ _ _ h2 hz hd.2
    refine ⟨by simp;omega,fun k hk1 hk2 A n c=>by rw [List.getElem?_append_right (by omega),hl];exact q2 (k - a.sz) (by omega) (by omega) A n c,?_⟩
    simp only [repO]
    refine ⟨us,_,?_,h1,q3⟩
    unfold splice
    rw [List.take_append,List.take_of_length_le (by omega),List.drop_append,List.drop_of_length_le (by omega),hl]
    simp
    congr 1;omega
 |sl e=>
  intro off x vs o y hr h hd
  obtain ⟨rfl,h9⟩:=inj_leaf (by intro a b;simp) h
  obtain ⟨e',_⟩:=cast'_some h9
  subst e'
  cases hu
 |_=>
  intro off x vs o y hr h hd
  have hr':rep F w _ x vs:=by simpa only [repO] using hr
  obtain ⟨q1,q2⟩:=inj_rep _ x vs o u v us' y hr' hv h
  refine ⟨q1,fun k _ _ A n c=>noSl_cells _ _ _ hr' (by first|exact hd|simp_all [deepK,Ty.hasSl]) k A n c,?_⟩
  simpa only [repO] using q2
structure DC (F:Nat->Prop) (w:World) (hole:Option (Int×Nat×Nat)) (e:Ty) (xs:List e.D) (b:Nat) (l:List Value):Prop where
 len:xs.length*e.sz<=l.length
 el:∀ i (h:i<xs.length),repO F w (holeOff hole i) 0 e xs[i] ((l.drop (i*e.sz)).take e.sz)
 dist:∀ k b' n cap,k<xs.length*e.sz->holeCell e hole≠some k->l[k]?=some (.slice (some ⟨b',0,none⟩) n cap)->0<cap ->
     b'≠b/\∀ k' n' cap',k'<xs.length*e.sz->holeCell e hole≠some k'->l[k']?=some (.slice (some ⟨b',0,none⟩) n' cap')->0<cap'->k'=k
theorem holeCell_ne {e:Ty} {hole:Option (Int×Nat×Nat)} {i k:Nat} (hk:k<e.sz) (h3:∀ j o id',hole=some (j,o,id')->o<e.sz):holeCell e hole=some (i*e.sz+k)↔holeOff hole i=some (0+k):=by
 unfold holeCell holeOff
 cases hole with
 |none=>simp
 |some q=>
  obtain ⟨j,o,id'⟩:=q
  have ho:=h3 j o id' rfl
  simp only [zS,Nat.zero_add]
  constructor
  ·intro h
   have h5:(j.toNat*e.sz+o) / e.sz=(i*e.sz+k) / e.sz:=by rw [h]
   rw [Nat.mul_comm,Nat.mul_add_div (by omega),Nat.div_eq_of_lt ho,Nat.mul_comm i,Nat.mul_add_div (by omega),Nat.div_eq_of_lt hk] at h5
   have hji:j.toNat=i:=by omega
   rw [if_pos hji]
   rw [hji] at h
   congr 1;omega
  ·intro h
   split at h
   ·rename_i hji
    simp only [zS] at h
    rw [hji,h]
   ·cases h
end
end
section
section
variable {P:Program} {F:Nat->Prop} {w:World} {β:Nat->Option Conc}
theorem getD_at {t:Ty} {xs:List t.D} {i:Nat} {d:t.D} (h:i<xs.length):xs.getD i d=xs[i]:=by
 rw [List.getD_eq_getElem?_getD,List.getElem?_eq_getElem h];rfl
def SlAt (e:Ty) (n:Nat) (hole:Option (Int×Nat×Nat)) (l:List Value) (b':Nat):Prop:=
 ∃ k m cap,k<n*e.sz/\holeCell e hole≠some k/\l[k]?=some (.slice (some ⟨b',0,none⟩) m cap)/\0<cap
theorem inner_iff {c:Conc} {e:Ty} {xs:List e.D} {hole:Option (Int×Nat×Nat)} {b b':Nat} {l:List Value} (hb:c.b=some b) (hl:cellsAt w b=some l):Inner w c (some (.deep e xs hole)) b'↔SlAt e xs.length hole l b':=by
 simp only [Inner,SlAt]
 constructor
 ·rintro ⟨b0,l0,k,n,cap,h1,h2,h3⟩
  rw [hb] at h1;cases h1
  rw [hl] at h2;cases h2
  exact ⟨k,n,cap,h3⟩
 ·rintro ⟨k,n,cap,h⟩
  exact ⟨b,l,k,n,cap,hb,hl,h⟩
theorem DC.mono {F':Nat->Prop} {w':World} (hF:∀ b,F b->F' b/\cellsAt w' b=cellsAt w b) {hole:Option (Int×Nat×Nat)} {e:Ty} {xs:List e.D} {b:Nat} {l:List Value} (d:DC F w hole e xs b l) (hk:deepK e=true) (h3:∀ j o id',hole=some (j,o,id')->o<e.sz)
  (hin:∀ b',SlAt e xs.length hole l b'->w'.heap[b']?=w.heap[b']?):DC F' w' hole e xs b l:=by
 refine ⟨d.len,fun i hi=>repO_mono hF _ _ _ _ (d.el i hi) fun k b' o n cap hne hkk hc=>?_,d.dist⟩
 obtain ⟨q1,q2⟩:=seg_at hkk
 rcases slot_own e 0 _ _ (d.el i hi) k hne hkk hk with h6|⟨b2,h6⟩
 ·omega
 ·cases h6
  exact hin b' ⟨i*e.sz+k,n,cap,cell_lt hi q1,fun h=>hne ((holeCell_ne q1 h3).1 h),q2,hc⟩
theorem BRel.deepD {c:Conc} {e:Ty} {xs:List e.D} {hole:Option (Int×Nat×Nat)} (h:BRel F w β c (.deep e xs hole)) :
  deepK e=true/\c.sh=.row e xs.length/\xs.length<=c.cap/\(c.b=none->xs=[]/\c.cap=0/\hole=none)/\(∀ j o id',hole=some (j,o,id')->0<=j/\j<xs.length/\o<e.sz) /\
   ∀ b,c.b=some b->∃ l,cellsAt w b=some l/\c.cap*e.sz=l.length/\DC F w hole e xs b l/\(∀ o,o<c.cap*e.sz->frz w ⟨b,o,none⟩=false) /\
    (∀ j o id',hole=some (j,o,id')->∃ c' t n,β id'=some c'/\c'.sh=.row t n/\l[j.toNat*e.sz+o]?=some (.slice c'.adr n c'.cap)):=by
 obtain ⟨h0,h1,h2,h3,h3',h4⟩:=h
 refine ⟨h0,h1,h2,h3,h3',fun b hb=>?_⟩
 obtain ⟨l,hl,hsz,hr,hfz,hho,hds⟩:=h4 b hb
 have hm:xs.length*e.sz<=c.cap*e.sz:=Nat.mul_le_mul_right _ h2
 exact ⟨l,hl,hsz,⟨by omega,hr,hds⟩,hfz,hho⟩
theorem BRel.mkDeep {c:Conc} {e:Ty} {xs:List e.D} {hole:Option (Int×Nat×Nat)} (h0:deepK e=true) (h1:c.sh=.row e xs.length) (h2:xs.length<=c.cap) (h3:c.b=none->xs=[]/\c.cap=0/\hole=none) (h3':∀ j o id',hole=some (j,o,id')->0<=j/\j<xs.length/\o<e.sz)
  (h4:∀ b,c.b=some b->∃ l,cellsAt w b=some l/\c.cap*e.sz=l.length/\DC F w hole e xs b l/\(∀ o,o<c.cap*e.sz->frz w ⟨b,o,none⟩=false) /\
    (∀ j o id',hole=some (j,o,id')->∃ c' t n,β id'=some c'/\c'.sh=.row t n/\l[j.toNat*e.sz+o]?=some (.slice c'.adr n c'.cap))):BRel F w β c (.deep e xs hole):=by
 refine ⟨h0,h1,h2,h3,h3',fun b hb=>?_⟩
 obtain ⟨l,hl,hsz,hr,hfz,hho⟩:=h4 b hb
 exact ⟨l,hl,hsz,hr.el,hfz,hho,hr.dist⟩
theorem BRel.ownS {c:Conc} {t:Ty} {ys:List t.D} (h:BRel F w β c (.row t ys false)):OwnS F w t ys c.adr ys.length c.cap:=by
 obtain ⟨h1,h2,h3,h4⟩:=h
 refine ⟨rfl,h2,?_⟩
 cases hb:c.b with
 |none=>exact .inl (h3 hb).2
 |some b=>
  obtain ⟨⟨l,hl,hsz,hr⟩,_,h6⟩:=h4 b hb
  exact .inr ⟨b,l,Conc.adr_some hb,hl,hsz,hr,h6 rfl⟩
theorem Conc.adr_own {c:Conc} {b:Nat} (h3:c.b=none->c.cap=0) (h:c.adr=some ⟨b,0,none⟩) (hc:0<c.cap):c.b=some b:=by
 cases hb:c.b with
 |none=>have:=h3 hb;omega
 |some b'=>rw [Conc.adr_some hb] at h;cases h;rfl
theorem DC.put {hole:Option (Int×Nat×Nat)} {e t:Ty} {xs:List e.D} {b:Nat} {l:List Value} (d:DC F w hole e xs b l) {i o:Nat} {ys:List t.D} {x:e.D} (h3:∀ j o id',hole=some (j,o,id')->o<e.sz) (hi:i<xs.length)
  (hinj:inj e xs[i] o (.sl t) ys=some x) (hh:∀ j o' id',hole=some (j,o',id')->j.toNat=i/\o'=o) {A:Option Addr} {n c:Nat} (hown:OwnS F w t ys A n c)
  (hA:∀ b1,A=some ⟨b1,0,none⟩->0<c->b1≠b/\∀ k n' cap',k<xs.length*e.sz->holeCell e hole≠some k->k≠i*e.sz+o->l[k]?=some (.slice (some ⟨b1,0,none⟩) n' cap')->0<cap'->False) :
  o<e.sz/\(∃ A' n' c',l[i*e.sz+o]?=some (.slice A' n' c'))/\DC F w none e (xs.set i x) b (l.set (i*e.sz+o) (.slice A n c)):=by
 have hoff:∀ i' k,k<e.sz->holeOff hole i'=some (0+k)->i'=i/\k=o:=fun i' k hk h=>by
  cases hole with
  |none=>cases h
  |some q=>
   obtain ⟨j,o',id'⟩:=q
   simp only [holeOff] at h
   split at h
   ·rename_i hj
    simp only [zS] at h
    obtain ⟨a1,a2⟩:=hh j o' id' rfl
    omega
   ·cases h
 obtain ⟨q1,⟨A',n',c',q2⟩,q3⟩:=inj_repO_sl e 0 _ _ o ys x (d.el i hi) hinj (fun k hk h=>(hoff i k hk h).2) hown
 have hcell:=(seg_at q2).2
 have hlt:i*e.sz+o<l.length:=(List.getElem?_eq_some_iff.1 hcell).1
 have hm:(i+1)*e.sz<=xs.length*e.sz:=Nat.mul_le_mul_right _ hi
 rw [Nat.add_mul] at hm
 have hdl:=d.len
 refine ⟨q1,⟨A',n',c',hcell⟩,⟨by simpa using d.len,fun i' hi'=>?_,fun k b' n cap hk hne hkk hc=>?_⟩⟩
 ·have hi2:i'<xs.length:=by simpa using hi'
  by_cases e1:i'=i
  ·subst e1
   rw [List.getElem_set_self]
   have:((l.set (i'*e.sz+o) (.slice A n c)).drop (i'*e.sz)).take e.sz=((l.drop (i'*e.sz)).take e.sz).set o (.slice A n c):=by
    rw [List.drop_set,if_neg (by omega),Nat.add_sub_cancel_left,List.take_set]
   rw [this];exact q3
  ·rw [List.getElem_set_ne (Ne.symm e1)]
   have hseg:((l.set (i*e.sz+o) (.slice A n c)).drop (i'*e.sz)).take e.sz=(l.drop (i'*e.sz)).take e.sz:=by
    apply List.ext_getElem?
    intro j
    rw [seg_get,seg_get]
    split
    ·rename_i hj
     rw [List.getElem?_set_ne]
     intro h5
     have h6:(i*e.sz+o) / e.sz=(i'*e.sz+j) / e.sz:=by rw [h5]
     rw [Nat.mul_comm,Nat.mul_add_div (by omega),Nat.div_eq_of_lt q1,Nat.mul_comm i',Nat.mul_add_div (by omega),Nat.div_eq_of_lt hj] at h6
     omega
    ·rfl
   rw [hseg]
   exact repO_hole e 0 _ _ (d.el i' hi2) fun k hk h=>absurd (hoff i' k hk h).1 e1
 ·have hk':k<xs.length*e.sz:=by simpa using hk
  have old:∀ {k n cap b'},k≠i*e.sz+o->(l.set (i*e.sz+o) (.slice A n c))[k]?=some (.slice (some ⟨b',0,none⟩) n cap)->l[k]?=some (.slice (some ⟨b',0,none⟩) n cap):=fun {k n cap b'} e1 h=>by
   rw [List.getElem?_set_ne (Ne.symm e1)] at h;exact h
  have nohole:∀ k,k≠i*e.sz+o->holeCell e hole≠some k:=fun k e1 h=>by
   cases hole with
   |none=>cases h
   |some q=>
    obtain ⟨j,o',id'⟩:=q
    obtain ⟨a1,a2⟩:=hh j o' id' rfl
    simp only [holeCell,zS] at h
    rw [a1,a2] at h;exact e1 h.symm
  by_cases e1:k=i*e.sz+o
  ·subst e1
   rw [List.getElem?_set_self hlt] at hkk
   cases hkk
   obtain ⟨a1,a2⟩:=hA b' rfl hc
   refine ⟨a1,fun k' n' cap' hk2 _ hkk' hc'=>?_⟩
   by_cases e2:k'=i*e.sz+o
   ·exact e2
   ·rw [List.getElem?_set_ne (Ne.symm e2)] at hkk'
    exact (a2 k' n' cap' (by simpa using hk2) (nohole k' e2) e2 hkk' hc').elim
  ·have hkk2:l[k]?=some (.slice (some ⟨b',0,none⟩) n cap):=by rw [List.getElem?_set_ne (Ne.symm e1)] at hkk;exact hkk
   obtain ⟨a1,a2⟩:=d.dist k b' n cap hk' (nohole k e1) hkk2 hc
   refine ⟨a1,fun k' n' cap' hk2 _ hkk' hc'=>?_⟩
   by_cases e2:k'=i*e.sz+o
   ·subst e2
    rw [List.getElem?_set_self hlt] at hkk'
    cases hkk'
    exact ((hA b' rfl hc').2 k n cap hk' (nohole k e1) e1 hkk2 hc).elim
   ·rw [List.getElem?_set_ne (Ne.symm e2)] at hkk'
    exact a2 k' n' cap' (by simpa using hk2) (nohole k' e2) hkk' hc'
theorem closeD_good {X H} (g:Good X F w β H) {id:Nat} {c:Conc} (hc:β id=some c) {e:Ty} {xs:List e.D} {H1:Heap} (h:closeD H id=some ⟨e,xs,H1⟩):Good X F w β H1/\H1 id=some (.deep e xs none)/\∀ j,H j=none->H1 j=none:=by
 unfold closeD at h
 split at h
 ·rename_i e' xs' hH
  simp only [zS,Sigma.mk.injEq] at h
  obtain ⟨rfl,h⟩:=h
  cases h
  exact ⟨g,hH,fun j hj=>hj⟩
 ·rename_i e' xs' i o id' hH
  split at h
  ·rename_i t ys hH'
   obtain ⟨x,hx,h⟩:=zM.1 h
   simp only [Sigma.mk.injEq] at h
   obtain ⟨rfl,h⟩:=h
   cases h
   have hne:id≠id':=fun e=>by rw [e,hH'] at hH;cases hH
   obtain ⟨blk,hb1,hb2⟩:=g.hr id c hc
   rw [hH] at hb1;cases hb1
   obtain ⟨h0,h1,h2,h3,h3',h4⟩:=hb2.deepD
   obtain ⟨hi0,hi1,ho⟩:=h3' i o id' rfl
   have hilt:i.toNat<xs'.length:=by omega
   rw [getD_at hilt] at hx
   cases hcb:c.b with
   |none=>have:=(h3 hcb).2.2;cases this
   |some b=>
   obtain ⟨l,hl,hsz,d,hfz,hho⟩:=h4 b hcb
   obtain ⟨c',t',n,hc',hsh,hcell⟩:=hho i o id' rfl
   obtain ⟨blk',hb1',hb2'⟩:=g.hr id' c' hc'
   rw [hH'] at hb1';cases hb1'
   have hn:n=ys.length:=by have:=hb2'.1;rw [hsh] at this;injection this
   subst hn
   have hadr:∀ b1,c'.adr=some ⟨b1,0,none⟩->0<c'.cap->Owned w c' (H id') b1:=fun b1 h hp=>by
    rw [hH'];exact ⟨rfl,.inl (Conc.adr_own (fun e=>(hb2'.2.2.1 e).2) h hp)⟩
   have hinn:∀ {k b1 n' cap'},k<xs'.length*e'.sz->holeCell e' (some (i,o,id'))≠some k->l[k]?=some (.slice (some ⟨b1,0,none⟩) n' cap')->0<cap'->Owned w c (H id) b1:=fun {k b1 n' cap'} q1 q2 q3 q4=>by
    rw [hH];exact ⟨rfl,.inr ((inner_iff hcb hl).2 ⟨k,n',cap',q1,q2,q3,q4⟩)⟩
   obtain ⟨_,_,dput⟩:=d.put (fun j o' id'' h=>(h3' j o' id'' h).2.2) hilt hx (fun j o' id'' h=>by cases h;exact ⟨rfl,rfl⟩) hb2'.ownS (fun b1 hA hp=>by
    refine ⟨fun eb=>?_,fun k n' cap' q1 q2 q3 q4 q5=>hne (g.uniq' id id' c c' b1 hc hc' (hinn q1 q2 q4 q5) (hadr b1 hA hp))⟩
    subst eb
    exact hne (g.uniq' id id' c c' b1 hc hc' (by rw [hH];exact ⟨rfl,.inl hcb⟩) (hadr b1 hA hp)))
   have hself:l.set (i.toNat*e'.sz+o) (.slice c'.adr ys.length c'.cap)=l:=by
    apply List.ext_getElem?
    intro k
    by_cases e1:k=i.toNat*e'.sz+o
    ·subst e1
     rw [List.getElem?_set_self (List.getElem?_eq_some_iff.1 hcell).1,hcell]
    ·rw [List.getElem?_set_ne (Ne.symm e1)]
   rw [hself] at dput
   have hdead:((H.set id' .dead).set id (.deep e' (xs'.set i.toNat x) none)) id'=some .dead:=by rw [zH (Ne.symm hne),zJ]
   have hown:∀ {j c1 b'},(j=id\/j=id')->β j=some c1->Owned w c1 (((H.set id' .dead).set id (.deep e' (xs'.set i.toNat x) none)) j) b'->j=id/\(Owned w c (H id) b'\/Owned w c' (H id') b'):=fun {j c1 b'} hS hj ho'=>by
    rcases hS with rfl|rfl
    ·rw [hc] at hj;cases hj
     rw [zJ] at ho'
     refine ⟨rfl,?_⟩
     rcases ho'.2 with h|h
     ·exact .inl (by rw [hH];exact ⟨rfl,.inl h⟩)
     ·obtain ⟨k,n',cap',q1,q2,q3,q4⟩:=(inner_iff hcb hl).1 h
      by_cases e1:k=i.toNat*e'.sz+o
      ·subst e1
       rw [hcell] at q3
       simp only [zS,Value.slice.injEq] at q3
       obtain ⟨q3,_,q5⟩:=q3
       exact .inr (hadr b' q3 (by omega))
      ·exact .inl (hinn (by simpa using q1) (fun h=>e1 (by unfold holeCell at h;simpa using h.symm)) q3 q4)
    ·rw [hdead] at ho';cases ho'.1
   obtain ⟨g',_⟩:=g.change (β':=β) (H':=(H.set id' .dead).set id (.deep e' (xs'.set i.toNat x) none)) (w':=w) (fun j=>j=id\/j=id') (fun _ _ h=>h) (fun _ _=>rfl)
    (fun j hj=>by rw [zH (fun e=>hj (.inl e)),zH (fun e=>hj (.inr e))]) (Nat.le_refl _) ⟨rfl,rfl⟩ (fun _ _ _=>rfl)
    (fun j c1 b' hS hj ho'=>(hown hS hj ho').2.elim (fun h=>.inl ⟨id,c,.inl rfl,hc,h⟩) (fun h=>.inl ⟨id',c',.inr rfl,hc',h⟩))
    (fun j j' c1 c2 b' hS hS' h1 h2 h3 h4=>(hown hS h1 h3).1.trans (hown hS' h2 h4).1.symm)
    (fun j c1 hS hj _=>by
     rcases hS with rfl|rfl
     ·rw [hc] at hj;cases hj
      refine ⟨_,zJ,BRel.mkDeep h0 (by simpa using h1) (by simpa using h2) (fun e=>by rw [hcb] at e;cases e) (fun _ _ _ h=>by cases h) fun b2 hb2=>?_⟩
      rw [hcb] at hb2;cases hb2
      exact ⟨l,hl,hsz,dput,hfz,fun _ _ _ h=>by cases h⟩
     ·exact ⟨_,hdead,trivial⟩)
   refine ⟨g',zJ,fun j hj=>?_⟩
   rw [zH (fun e=>by rw [e,hH] at hj;cases hj),zH (fun e=>by rw [e,hH'] at hj;cases hj)];exact hj
  ·cases h
 ·cases h
theorem Good.untold {X H} (g:Good X F w β H) {id:Nat} (hc:β id=none) (blk:Blk):Good X F w β (H.set id blk):=by
 have ne:∀ {j c},β j=some c->j≠id:=fun {j c} h e=>by rw [e,hc] at h;cases h
 exact ⟨fun j c h=>by rw [zH (ne h)];exact g.hr j c h,fun j c b h1 h2=>g.own' j c b h1 (by rw [zH (ne h1)] at h2;exact h2),
  fun j j' c1 c2 b h1 h2 h3 h4=>g.uniq' j j' c1 c2 b h1 h2 (by rw [zH (ne h1)] at h3;exact h3) (by rw [zH (ne h2)] at h4;exact h4),g.fsz,g.fext,g.fmono,g.frame,g.gsz,g.size,g.tame⟩
theorem Good.closeH {X H} (g:Good X F w β H) (id:Nat):Good X F w β (closeH H id):=by
 unfold LM.closeH
 split
 ·rename_i e xs H1 h
  cases hc:β id with
  |some c=>exact (closeD_good g hc h).1
  |none=>
   unfold closeD at h
   split at h
   ·simp only [zS,Sigma.mk.injEq] at h
    obtain ⟨rfl,h⟩:=h
    cases h
    exact g
   ·split at h
    ·obtain ⟨x,hx,h⟩:=zM.1 h
     simp only [Sigma.mk.injEq] at h
     obtain ⟨rfl,h⟩:=h
     cases h
     exact (g.kill _).untold hc _
    ·cases h
   ·cases h
 ·exact g
theorem Good.closeIds {X}:∀ (l:List Nat) {H:Heap},Good X F w β H->Good X F w β (closeIds l H)
 | [],H,g=>g
 |id::l,H,g=>by
  simp only [LM.closeIds]
  split
  ·exact Good.closeIds l (g.closeH id)
  ·exact Good.closeIds l g
theorem Good.settle {X H} (g:Good X F w β H) (st:List Nat):Good X F w β (settle st H):=by
 unfold LM.settle
 split
 ·exact g.closeIds _
 ·exact g
end
end
section
section
variable {P:Program} {F:Nat->Prop} {w:World} {β:Nat->Option Conc}
theorem placeOf_deep {c:Conc} {e:Ty} {n:Nat} {i:Int} {o k:Nat} (hsh:c.sh=.row e n) (h:placeOf c.sh ⟨0,[(i,o)]⟩=some k):0<=i/\i<n/\k=i.toNat*e.sz+o:=by
 simp only [placeOf,hsh,arrSh,if_true] at h
 split at h
 ·rename_i hi
  simp only [innerAt,Option.map_some,zS] at h
  exact ⟨hi.1,hi.2,by omega⟩
 ·cases h
theorem slOf_some {u t:Ty} (h:slOf u=some t):u=.sl t:=by
 cases u<;>simp [slOf] at h
 rw [h]
theorem sim_loadD {X H} (g:Good X F w β H) {id0:Nat} (hid:β id0=none) {T:TypeId} {id:Nat} {i:Int} {o:Nat} {v:AV} {H':Heap} {hd:Bool} (h:exLoadD P T H id0 id i o=some (v,H',hd)) {u:Value} (ha:RelV F w β (.ptr id ⟨0,[(i,o)]⟩) u) :
  ∃ r,(Instr.loadAt T u).run P w=.ok r w/\Left X F w β H' id0 v r w:=by
 obtain ⟨c,b,k0,rfl,hc,hb,hk0⟩:=ha.ptr_inv
 unfold exLoadD at h
 obtain ⟨q,hT,h⟩:=zB.1 h
 obtain ⟨t1,⟨inf,t2⟩,t3,⟨ud,t4⟩,t5⟩:=tyC_some hT
 split at h
 ·rename_i t hq
  have hq:=slOf_some hq
  subst hq
  obtain ⟨⟨e,xs,H1⟩,hcl,h⟩:=zB.1 h
  obtain ⟨ys,hp,h⟩:=zM.1 h
  simp only [zP] at h
  obtain ⟨rfl,rfl,rfl⟩:=h
  obtain ⟨g1,hH1,_⟩:=closeD_good g hc hcl
  obtain ⟨blk,hb1,hb2⟩:=g1.hr id c hc
  rw [hH1] at hb1;cases hb1
  obtain ⟨h0,h1,h2,h3,h3',h4⟩:=hb2.deepD
  obtain ⟨hi0,hi1,rfl⟩:=placeOf_deep h1 hk0
  have hilt:i.toNat<xs.length:=by omega
  (try simp only at hp)
  rw [getD_at hilt] at hp
  obtain ⟨l,hl,hsz,d,hfz,_⟩:=h4 b hb
  obtain ⟨p1,p2,A,n,cp,p3,p4⟩:=proj_repO_sl e 0 _ _ o ys (d.el i.toNat hilt) hp h0
  have hown:=p4 (by simp [holeOff])
  have hcell:=(seg_at p3).2
  have hkx:=cell_lt hilt p2
  obtain ⟨c0,s1,s2,s3,s4,s5⟩:∃ c0:Conc,c0.sh=.row t ys.length/\c0.cap=cp/\c0.adr=A/\(c0.b=none->cp=0)/\∀ b1,c0.b=some b1->A=some ⟨b1,0,none⟩/\0<cp:=by
   by_cases hz:cp=0
   ·exact ⟨⟨none,cp,.row t ys.length,A⟩,rfl,rfl,rfl,(fun _=>hz),(fun b1 e=>by cases e)⟩
   ·rcases hown.2.2 with h|⟨b1,l1,h,_⟩
    ·exact absurd h hz
    ·refine ⟨⟨some b1,cp,.row t ys.length,none⟩,rfl,rfl,(by rw [h];rfl),(fun e=>by cases e),fun b2 e=>?_⟩
     cases e
     exact ⟨h,by omega⟩
  have hn:n=ys.length:=hown.1
  have hne:id≠id0:=fun e=>by rw [e,hid] at hc;cases hc
  have hrun:(Instr.loadAt T (.pointer (some ⟨b,i.toNat*e.sz+o,none⟩))).run P w=.ok (.slice A n cp) w:=by
   have hA:At w b (i.toNat*e.sz+o) (P.cellsOf T) [.slice A n cp]:=⟨l,hl,by
    rw [t3];have:=(List.getElem?_eq_some_iff.1 hcell).1;show i.toNat*e.sz+o+1<=_;omega,by
    rw [t3]
    apply List.ext_getElem?
    intro j
    rw [seg_get]
    cases j with
    |zero=>rw [if_pos (by simp [Ty.sz]),Nat.add_zero,hcell];rfl
    |succ j=>simp [Ty.sz]⟩
   have hag:isAggM P T=false:=by rw [←t5 ([]:List t.D)];rfl
   obtain ⟨r,r1,_,r2⟩:=loadVar_run t4 hA (fun _=>⟨_,rfl⟩)
   have r3:=r2 hag
   simp only [List.cons.injEq,and_true] at r3
   rw [←r3] at r1
   simpa [Instr.loadAt,Instr.sureAddr,pure,Sem.run] using r1
  have hsl:SlAt e xs.length (some (i,o,id0)) l=fun b'=>SlAt e xs.length (some (i,o,id0)) l b':=rfl
  have hcell0:holeCell e (some (i,o,id0))=some (i.toNat*e.sz+o):=rfl
  have weak:∀ {b'},SlAt e xs.length (some (i,o,id0)) l b'->SlAt e xs.length none l b':=fun ⟨k,m,cap,q1,q2,q3,q4⟩=>⟨k,m,cap,q1,by simp [holeCell],q3,q4⟩
  have oldOwn:∀ {b'},SlAt e xs.length none l b'->Owned w c (H1 id) b':=fun {b'} hs=>by rw [hH1];exact ⟨rfl,.inr ((inner_iff hb hl).2 hs)⟩
  have hid':((H1.set id (.deep e xs (some (i,o,id0)))).set id0 (.row t ys false)) id=some (.deep e xs (some (i,o,id0))):=by rw [zH hne,zJ]
  have ow:∀ {j c1 b'},(j=id\/j=id0)->upd β id0 c0 j=some c1->Owned w c1 (((H1.set id (.deep e xs (some (i,o,id0)))).set id0 (.row t ys false)) j) b' ->
    (j=id/\(b'=b\/SlAt e xs.length (some (i,o,id0)) l b'))\/(j=id0/\A=some ⟨b',0,none⟩/\0<cp):=fun {j c1 b'} hS hj ho=>by
   rcases hS with rfl|rfl
   ·rw [upd_ne hne,hc] at hj;cases hj
    rw [hid'] at ho
    refine .inl ⟨rfl,?_⟩
    rcases ho.2 with h|h
    ·rw [hb] at h;cases h;exact .inl rfl
    ·exact .inr ((inner_iff hb hl).1 h)
   ·rw [upd_self] at hj;cases hj
    rw [zJ] at ho
    rcases ho.2 with h|h
    ·exact .inr ⟨rfl,s5 b' h⟩
    ·exact h.elim
  have inCell:∀ {b'},A=some ⟨b',0,none⟩->0<cp->SlAt e xs.length none l b':=fun {b'} hA hp=>⟨_,n,cp,hkx,by simp [holeCell],by rw [hcell,hA],hp⟩
  obtain ⟨g',ex⟩:=g1.change (β':=upd β id0 c0) (H':=(H1.set id (.deep e xs (some (i,o,id0)))).set id0 (.row t ys false)) (w':=w) (fun j=>j=id\/j=id0)
   (fun j c1 hj=>by rw [upd_ne (fun e=>by rw [e,hid] at hj;cases hj)];exact hj) (fun j hj=>upd_ne fun e=>hj (.inr e))
   (fun j hj=>by rw [zH (fun e=>hj (.inr e)),zH (fun e=>hj (.inl e))]) (Nat.le_refl _) ⟨rfl,rfl⟩ (fun _ _ _=>rfl)
   (fun j c1 b' hS hj ho=>by
    refine .inl ⟨id,c,.inl rfl,hc,?_⟩
    rcases ow hS hj ho with ⟨_,rfl|h⟩|⟨_,hA,hp⟩
    ·rw [hH1];exact ⟨rfl,.inl hb⟩
    ·exact oldOwn (weak h)
    ·exact oldOwn (inCell hA hp))
   (fun j j' c1 c2 b' hS hS' q1 q2 q3 q4=>by
    have cross:∀ {b'},(b'=b\/SlAt e xs.length (some (i,o,id0)) l b')->A=some ⟨b',0,none⟩->0<cp->False:=fun {b'} hl' hA hp=>by
     obtain ⟨d1,d2⟩:=d.dist _ b' n cp hkx (by simp [holeCell]) (by rw [hcell,hA]) hp
     rcases hl' with rfl|⟨k,m,cap,z1,z2,z3,z4⟩
     ·exact d1 rfl
     ·have:=d2 k m cap z1 (by simp [holeCell]) z3 z4
      rw [this] at z2
      exact z2 hcell0
    rcases ow hS q1 q3 with ⟨rfl,a1⟩|⟨rfl,a1,a2⟩
    ·rcases ow hS' q2 q4 with ⟨rfl,_⟩|⟨rfl,b1,b2⟩
     ·rfl
     ·exact (cross a1 b1 b2).elim
    ·rcases ow hS' q2 q4 with ⟨rfl,b1⟩|⟨rfl,_⟩
     ·exact (cross b1 a1 a2).elim
     ·rfl)
   (fun j c1 hS hj ex=>by
    rcases hS with rfl|rfl
    ·rw [upd_ne hne,hc] at hj;cases hj
     refine ⟨_,hid',BRel.mkDeep h0 h1 h2 (fun e=>by rw [hb] at e;cases e) (fun j' o' id'' h=>by cases h;exact ⟨hi0,hi1,p2⟩) fun b2 hb2=>?_⟩
     rw [hb] at hb2;cases hb2
     refine ⟨l,hl,hsz,⟨d.len,fun i' hi'=>repO_hole e 0 _ _ (d.el i' hi') fun k hk h=>by simp [holeOff] at h,fun k b' m cap z1 z2 z3 z4=>?_⟩,hfz,fun j' o' id'' h=>?_⟩
     ·obtain ⟨d1,d2⟩:=d.dist k b' m cap z1 (by simp [holeCell]) z3 z4
      exact ⟨d1,fun k' m' cap' z5 _ z6 z7=>d2 k' m' cap' z5 (by simp [holeCell]) z6 z7⟩
     ·cases h
      exact ⟨c0,t,ys.length,upd_self,s1,by rw [hcell,s3,s2,hn]⟩
    ·rw [upd_self] at hj;cases hj
     refine ⟨_,zJ,s1,by rw [s2,←hn];exact hown.2.1,fun e=>?_,fun b1 hb1=>?_⟩
     ·have hz:=s4 e
      have h7:=hown.2.1
      exact ⟨List.eq_nil_of_length_eq_zero (by omega),by rw [s2];exact hz⟩
     ·obtain ⟨z1,z2⟩:=s5 b1 hb1
      rcases hown.2.2 with h|⟨b2,l2,y1,y2,y3,y4,y5⟩
      ·omega
      ·rw [z1] at y1;cases y1
       exact ⟨⟨l2,y2,by rw [s2];exact y3,y4⟩,(fun e=>by cases e),fun _ o ho=>y5 o (by rw [s2] at ho;exact ho)⟩)
  refine ⟨_,hrun,F,_,g',⟨ex.f,ex.b⟩,?_,fun j hj=>?_⟩
  ·have:=RelV.one (F:=F) (w:=w) (β:=upd β id0 c0) (.full id0) _ rfl (.full id0 c0 t ys.length upd_self s1 (by rw [s2,←hn];exact hown.2.1))
   rw [s3,s2] at this
   rw [hn];exact this
  ·by_cases e':j=id0
   ·exact .inr e'
   ·left;rw [upd_ne e'] at hj;exact hj
 ·rename_i hq
  split at h
  ·
   obtain ⟨⟨e,xs,H1⟩,hcl,h⟩:=zB.1 h
   obtain ⟨y,hp,h⟩:=zM.1 h
   simp only [zP] at h
   obtain ⟨rfl,rfl,rfl⟩:=h
   obtain ⟨g1,hH1,_⟩:=closeD_good g hc hcl
   obtain ⟨F',g2,ex,_⟩:=g1.freezeD hH1
   have hld:exLoad P T (H1.set id (.row e xs true)) (.ptr id ⟨0,[(i,o)]⟩)=some (.dat q y):=by
    simp only [exLoad,arrAt,zJ,if_true,hT,zb,getP]
    (try simp only at hp)
    rw [hp];rfl
   obtain ⟨r,r1,r2⟩:=sim_load g2 hld (ha.mono ex)
   exact ⟨r,r1,F',β,g2,ex,r2,fun j hj=>.inl hj⟩
  ·rename_i hu
   have hu:q.hasSl=false:=by simpa using hu
   split at h
   ·rename_i e xs hole hH
    obtain ⟨y,hp,h⟩:=zM.1 h
    simp only [zP] at h
    obtain ⟨rfl,rfl,rfl⟩:=h
    obtain ⟨blk,hb1,hb2⟩:=g.hr id c hc
    rw [hH] at hb1;cases hb1
    obtain ⟨h0,h1,h2,h3,h3',h4⟩:=hb2.deepD
    obtain ⟨hi0,hi1,rfl⟩:=placeOf_deep h1 hk0
    have hilt:i.toNat<xs.length:=by omega
    rw [getD_at hilt] at hp
    obtain ⟨l,hl,hsz,d,hfz,_⟩:=h4 b hb
    obtain ⟨p1,p2⟩:=proj_repO_flat hu e 0 _ _ o y (d.el i.toNat hilt) hp h0
    have hsl:((l.drop (i.toNat*e.sz)).take e.sz).length=e.sz:=repO_len (d.el i.toNat hilt)
    have hlen:i.toNat*e.sz+e.sz<=l.length:=by
     have:=d.len
     have hm:(i.toNat+1)*e.sz<=xs.length*e.sz:=Nat.mul_le_mul_right _ hilt
     rw [Nat.add_mul] at hm;omega
    rw [seg_seg _ (by omega)] at p2
    obtain ⟨h6,h7⟩:=RelV.of_tyC (β:=β) hT p2
    obtain ⟨r,hrun,hr1,hr2⟩:=loadVar_run t4 (b:=b) (o:=i.toNat*e.sz+o) ⟨l,hl,by rw [t3];omega,by rw [t3]⟩ h6
    exact ⟨r,by simpa [Instr.loadAt,Instr.sureAddr,pure,Sem.run] using hrun,F,β,g,.refl,h7 r hr1 hr2,fun j hj=>.inl hj⟩
   ·cases h
end
end
section
section
variable {P:Program} {F:Nat->Prop} {w:World} {β:Nat->Option Conc}
theorem storeAt_run {T:TypeId} {b o:Nat} {val:Value} {w'':World} (h1:(storeCells ⟨b,o,none⟩ val.cells.toList).run P w=.ok () w'') (h2:∃ i,P.info? T=some i) (h3:val.cells.size=P.cellsOf T) :
  (Instr.storeAt T (.pointer (some ⟨b,o,none⟩)) val).run P w=.ok () w'':=by
 unfold Instr.storeAt
 simp only [Sem.run_bind,Instr.sureAddr,pure,Sem.run,Result.andThen_ok]
 rw [storeVar_run h2 h3]
 exact h1
theorem put_store {X H} (g:Good X F w β H) {id:Nat} {c:Conc} (hc:β id=some c) {e t:Ty} {xs:List e.D} {hole:Option (Int×Nat×Nat)} (hH:H id=some (.deep e xs hole)) {b:Nat} (hb:c.b=some b) {i:Int} {o:Nat} (hi0:0<=i) (hi1:i<xs.length)
  {ys:List t.D} {x:e.D} (hinj:inj e (xs.getD i.toNat e.dflt) o (.sl t) ys=some x) (hh:∀ j o' id',hole=some (j,o',id')->j=i/\o'=o) {A:Option Addr} {n cp:Nat} (hown:OwnS F w t ys A n cp)
  (K:Nat->Prop) (hK:∀ j,K j->j≠id) (hA:∀ b1,A=some ⟨b1,0,none⟩->0<cp->∃ j cj,K j/\β j=some cj/\Owned w cj (H j) b1) {H0:Heap} (hK0:∀ j,K j->H0 j=some .dead) (hn0:∀ j,¬ K j->H0 j=H j) :
  ∃ w',(storeCells ⟨b,i.toNat*e.sz+o,none⟩ [.slice A n cp]).run P w=.ok () w'/\Good X F w' β (H0.set id (.deep e (xs.set i.toNat x) none))/\Ext F w β F w' β:=by
 obtain ⟨blk,hb1,hb2⟩:=g.hr id c hc
 rw [hH] at hb1;cases hb1
 obtain ⟨h0,h1,h2,h3,h3',h4⟩:=hb2.deepD
 have hilt:i.toNat<xs.length:=by omega
 rw [getD_at hilt] at hinj
 obtain ⟨l,hl,hsz,d,hfz,_⟩:=h4 b hb
 have hinn:∀ {k b1 n' cap'},k<xs.length*e.sz->holeCell e hole≠some k->l[k]?=some (.slice (some ⟨b1,0,none⟩) n' cap')->0<cap'->Owned w c (H id) b1:=fun {k b1 n' cap'} q1 q2 q3 q4=>by
  rw [hH];exact ⟨rfl,.inr ((inner_iff hb hl).2 ⟨k,n',cap',q1,q2,q3,q4⟩)⟩
 have hout:Owned w c (H id) b:=by rw [hH];exact ⟨rfl,.inl hb⟩
 have hAne:∀ {b1},A=some ⟨b1,0,none⟩->0<cp->¬ Owned w c (H id) b1:=fun {b1} q1 q2 q3=>by
  obtain ⟨j,cj,k1,k2,k3⟩:=hA b1 q1 q2
  exact hK j k1 (g.uniq' j id cj c b1 k2 hc k3 q3)
 obtain ⟨ho,⟨A',n',c',hcell⟩,dput⟩:=d.put (fun j o' id'' h=>(h3' j o' id'' h).2.2) hilt hinj (fun j o' id'' h=>by obtain ⟨a1,a2⟩:=hh j o' id'' h;exact ⟨by rw [a1],a2⟩) hown
  (fun b1 q1 q2=>⟨fun eb=>hAne q1 q2 (eb▸hout),fun k n' cap' z1 z2 z3 z4 z5=>hAne q1 q2 (hinn z1 z2 z4 z5)⟩)
 have hlt:i.toNat*e.sz+o<l.length:=(List.getElem?_eq_some_iff.1 hcell).1
 obtain ⟨w',s1,s2,s3,s4,s5,s6⟩:=store_run (P:=P) [.slice A n cp] w b (i.toNat*e.sz+o) 0 l hl (by simp;omega) (fun k hk=>by
  rcases Nat.lt_or_ge (i.toNat*e.sz+o+0+k) (c.cap*e.sz) with hh|hh
  ·rw [hfz _ hh] at hk;cases hk
  ·have:=hlt;simp;omega) (fun v hv=>by simp at hv;subst hv;rfl)
 have hspl:splice l (i.toNat*e.sz+o+0) [.slice A n cp]=l.set (i.toNat*e.sz+o) (.slice A n cp):=by
  apply List.ext_getElem?
  intro k
  rw [splice_get _ _ _ (by simp;omega),List.getElem?_set]
  simp only [Nat.add_zero,List.length_cons,List.length_nil,Nat.zero_add]
  by_cases e1:k<i.toNat*e.sz+o
  ·rw [if_pos e1,if_neg (by omega)]
  ·rw [if_neg e1]
   by_cases e2:k=i.toNat*e.sz+o
   ·subst e2;rw [if_pos (by omega),if_pos rfl,if_pos hlt];simp
   ·rw [if_neg (by omega),if_neg (Ne.symm e2)]
 rw [hspl] at s4
 have hFb:¬ F b:=(g.own' id c b hc hout).1
 have newIn:∀ {b'},SlAt e (xs.set i.toNat x).length none (l.set (i.toNat*e.sz+o) (.slice A n cp)) b'->(A=some ⟨b',0,none⟩/\0<cp)\/SlAt e xs.length hole l b':=fun {b'} ⟨k,m,cap,q1,q2,q3,q4⟩=>by
  by_cases e1:k=i.toNat*e.sz+o
  ·subst e1
   rw [List.getElem?_set_self hlt] at q3
   simp only [zS,Value.slice.injEq] at q3
   exact .inl ⟨q3.1,by omega⟩
  ·rw [List.getElem?_set_ne (Ne.symm e1)] at q3
   refine .inr ⟨k,m,cap,by simpa using q1,fun h=>e1 ?_,q3,q4⟩
   cases hole with
   |none=>cases h
   |some q=>
    obtain ⟨j,o',id'⟩:=q
    obtain ⟨a1,a2⟩:=hh j o' id' rfl
    simp only [holeCell,zS] at h
    rw [a1,a2] at h;exact h.symm
 have newNe:∀ {b'},SlAt e (xs.set i.toNat x).length none (l.set (i.toNat*e.sz+o) (.slice A n cp)) b'->b'≠b:=fun {b'} h eb=>by
  subst eb
  rcases newIn h with ⟨q1,q2⟩|⟨k,m,cap,q1,q2,q3,q4⟩
  ·exact hAne q1 q2 hout
  ·exact (d.dist k b' m cap q1 q2 q3 q4).1 rfl
 have hid':(H0.set id (.deep e (xs.set i.toNat x) none)) id=some (.deep e (xs.set i.toNat x) none):=zJ
 have ow:∀ {j c1 b'},(j=id\/K j)->β j=some c1->Owned w' c1 ((H0.set id (.deep e (xs.set i.toNat x) none)) j) b'->j=id/\∃ j' c',(j'=id\/K j')/\β j'=some c'/\Owned w c' (H j') b':=fun {j c1 b'} hS hj ho=>by
  rcases hS with rfl|hS
  ·rw [hc] at hj;cases hj
   rw [hid'] at ho
   refine ⟨rfl,?_⟩
   rcases ho.2 with h|h
   ·rw [hb] at h;cases h;exact ⟨j,c,.inl rfl,hc,hout⟩
   ·rcases newIn ((inner_iff hb s4).1 h) with ⟨q1,q2⟩|⟨k,m,cap,q1,q2,q3,q4⟩
    ·obtain ⟨j',cj,k1,k2,k3⟩:=hA b' q1 q2
     exact ⟨j',cj,.inr k1,k2,k3⟩
    ·exact ⟨j,c,.inl rfl,hc,hinn q1 q2 q3 q4⟩
  ·rw [zH (hK j hS),hK0 j hS] at ho;cases ho.1
 obtain ⟨g',ex⟩:=g.change (β':=β) (H':=H0.set id (.deep e (xs.set i.toNat x) none)) (w':=w') (fun j=>j=id\/K j) (fun _ _ h=>h) (fun _ _=>rfl)
  (fun j hj=>by rw [zH (fun e=>hj (.inl e)),hn0 j (fun h=>hj (.inr h))]) (by omega) s6 (fun b' _ hb'=>s3 b' fun eb=>hb' id c (.inl rfl) hc (eb▸hout))
  (fun j c1 b' hS hj ho=>.inl ((ow hS hj ho).2)) (fun j j' c1 c2 b' hS hS' q1 q2 q3 q4=>(ow hS q1 q3).1.trans (ow hS' q2 q4).1.symm)
  (fun j c1 hS hj ex=>by
   rcases hS with rfl|hS
   ·rw [hc] at hj;cases hj
    refine ⟨_,hid',BRel.mkDeep h0 (by simpa using h1) (by simpa using h2) (fun e=>by rw [hb] at e;cases e) (fun _ _ _ h=>by cases h) fun b2 hb2=>?_⟩
    rw [hb] at hb2;cases hb2
    exact ⟨_,s4,by simpa using hsz,dput.mono ex.f h0 (fun _ _ _ h=>by cases h) (fun b' h=>s3 b' (newNe h)),fun o ho=>(s5 b o).trans (hfz o ho),fun _ _ _ h=>by cases h⟩
   ·exact ⟨.dead,by rw [zH (hK j hS),hK0 j hS],trivial⟩)
 exact ⟨w',s1,g',ex⟩
theorem sim_storeD {X H H'} (g:Good X F w β H) {T:TypeId} {id:Nat} {i:Int} {o:Nat} {v:AV} {u val:Value} (h:exStoreD P T H id i o v=some H') (ha:RelV F w β (.ptr id ⟨0,[(i,o)]⟩) u) (hv:RelV F w β v val) :
  ∃ w',(Instr.storeAt T u val).run P w=.ok () w'/\Good X F w' β H'/\Ext F w β F w' β:=by
 obtain ⟨c,b,k0,rfl,hc,hb,hk0⟩:=ha.ptr_inv
 unfold exStoreD at h
 obtain ⟨q,hT,h⟩:=zB.1 h
 obtain ⟨t1,⟨inf,t2⟩,t3,⟨ud,t4⟩,t5⟩:=tyC_some hT
 split at h
 ·rename_i t e xs hole hq hH
  have hq:=slOf_some hq
  subst hq
  obtain ⟨blk,hb1,hb2⟩:=g.hr id c hc
  rw [hH] at hb1;cases hb1
  obtain ⟨h0,h1,h2,h3,h3',h4⟩:=hb2.deepD
  obtain ⟨hi0,hi1,rfl⟩:=placeOf_deep h1 hk0
  have core:∀ {ys:List t.D} {H0:Heap} {A:Option Addr} {n cp:Nat} (K:Nat->Prop),putD hole e xs id i o t ys H0=some H' ->
    OwnS F w t ys A n cp->(∀ j,K j->j≠id)->(∀ b1,A=some ⟨b1,0,none⟩->0<cp->∃ j cj,K j/\β j=some cj/\Owned w cj (H j) b1)->(∀ j,K j->H0 j=some .dead)->(∀ j,¬ K j->H0 j=H j)->val=.slice A n cp ->
    ∃ w',(Instr.storeAt T (.pointer (some ⟨b,i.toNat*e.sz+o,none⟩)) val).run P w=.ok () w'/\Good X F w' β H'/\Ext F w β F w' β:=by
   intro ys H0 A n cp K hput hown hK hA hK0 hn0 hval
   obtain ⟨x,hx,hH',hhole⟩:∃ x,inj e (xs.getD i.toNat e.dflt) o (.sl t) ys=some x/\H'=H0.set id (.deep e (xs.set i.toNat x) none)/\∀ j o' id',hole=some (j,o',id')->j=i/\o'=o:=by
    unfold putD at hput
    split at hput
    ·obtain ⟨x,q1,q2⟩:=zM.1 hput
     exact ⟨x,q1,q2.symm,fun _ _ _ h=>by cases h⟩
    ·split at hput
     ·rename_i hji
      obtain ⟨x,q1,q2⟩:=zM.1 hput
      exact ⟨x,q1,q2.symm,fun _ _ _ h=>by cases h;exact hji⟩
     ·cases hput
   subst hH'
   obtain ⟨w',s1,s2,s3⟩:=put_store (P:=P) g hc hH hb hi0 hi1 hx hhole hown K hK hA hK0 hn0
   refine ⟨w',storeAt_run ?_ ⟨inf,t2⟩ ?_,s2,s3⟩
   ·rw [hval];exact s1
   ·rw [hval,t3];rfl
  (try simp only at h)
  split at h
  ·refine core (K:=fun _=>False) h (A:=none) (n:=0) (cp:=0) ⟨rfl,Nat.le_refl _,.inl rfl⟩ (fun _ h=>h.elim) (fun _ h=>by cases h) (fun _ h=>h.elim) (fun _ _=>rfl) hv.nilS_inv
  ·rename_i id1 _
   split at h
   ·rename_i t' ys hH1
    obtain ⟨zs,hz,hput⟩:=zB.1 h
    obtain ⟨ee,he⟩:=castL_some hz
    subst ee
    have he':zs=ys:=he
    subst he'
    obtain ⟨c1,t1',len,hval,hc1,hsh1,hle1⟩:=hv.full_inv
    obtain ⟨blk,hb3,hb4⟩:=g.hr id1 c1 hc1
    rw [hH1] at hb3;cases hb3
    have hne:id1≠id:=fun e=>by rw [e,hH] at hH1;cases hH1
    have hlen:len=zs.length:=by have:=hb4.1;rw [hsh1] at this;injection this
    subst hlen
    refine core (K:=fun j=>j=id1) hput hb4.ownS (fun j hj=>by rw [hj];exact hne) (fun b1 q1 q2=>⟨id1,c1,rfl,hc1,by rw [hH1];exact ⟨rfl,.inl (Conc.adr_own (fun e=>(hb4.2.2.1 e).2) q1 q2)⟩⟩)
     (fun j hj=>by rw [hj,zJ]) (fun j hj=>by rw [zH hj]) hval
   ·cases h
  ·cases h
 ·rename_i e xs hole hq hH
  split at h
  ·cases h
  ·rename_i hu
   have hu:q.hasSl=false:=by simpa using hu
   obtain ⟨y,hy,h⟩:=zB.1 h
   obtain ⟨x,hx,h⟩:=zM.1 h
   subst h
   obtain ⟨blk,hb1,hb2⟩:=g.hr id c hc
   rw [hH] at hb1;cases hb1
   obtain ⟨h0,h1,h2,h3,h3',h4⟩:=hb2.deepD
   obtain ⟨hi0,hi1,rfl⟩:=placeOf_deep h1 hk0
   have hilt:i.toNat<xs.length:=by omega
   rw [getD_at hilt] at hx
   obtain ⟨l,hl,hsz,d,hfz,hho⟩:=h4 b hb
   have hrep:=pack_rep g hy hv (fun e=>by cases e)
   have hvl:=rep_len _ _ _ hrep
   obtain ⟨p1,p2,p3⟩:=inj_repO_flat hu hrep e 0 _ _ o x (d.el i.toNat hilt) hx h0
   have hsl:((l.drop (i.toNat*e.sz)).take e.sz).length=e.sz:=repO_len (d.el i.toNat hilt)
   have hlen:i.toNat*e.sz+e.sz<=l.length:=by
    have:=d.len
    have hm:(i.toNat+1)*e.sz<=xs.length*e.sz:=Nat.mul_le_mul_right _ hilt
    rw [Nat.add_mul] at hm;omega
   have hle:i.toNat*e.sz+o+val.cells.toList.length<=l.length:=by omega
   have same:∀ k A n cap,(splice l (i.toNat*e.sz+o) val.cells.toList)[k]?=some (Value.slice A n cap)↔l[k]?=some (Value.slice A n cap):=fun k A n cap=>by
    rw [splice_get _ _ _ hle]
    by_cases e1:k<i.toNat*e.sz+o
    ·rw [if_pos e1]
    ·rw [if_neg e1]
     by_cases e2:k<i.toNat*e.sz+o+val.cells.toList.length
     ·rw [if_pos e2]
      constructor
      ·intro hk;exact (noSl_cells _ _ _ hrep hu _ A n cap hk).elim
      ·intro hk
       have:=p2 (k - i.toNat*e.sz) (by omega) (by omega) A n cap
       rw [seg_get,if_pos (by omega),show i.toNat*e.sz+(k - i.toNat*e.sz)=k by omega] at this
       exact (this hk).elim
     ·rw [if_neg e2]
   have dnew:DC F w hole e (xs.set i.toNat x) b (splice l (i.toNat*e.sz+o) val.cells.toList):=by
    refine ⟨by rw [splice_len _ _ _ hle];simpa using d.len,fun i' hi'=>?_,fun k b' n cap q1 q2 q3 q4=>?_⟩
    ·have hi2:i'<xs.length:=by simpa using hi'
     by_cases e1:i'=i.toNat
     ·subst e1
      rw [List.getElem_set_self,splice_in _ _ _ _ _ (by omega) (by omega) (by omega)]
      rw [Nat.add_sub_cancel_left];exact p3
     ·rw [List.getElem_set_ne (Ne.symm e1),splice_apart _ _ _ hle]
      ·exact d.el i' hi2
      ·rcases Nat.lt_or_gt_of_ne e1 with hh|hh
       ·left
        have hm:(i'+1)*e.sz<=i.toNat*e.sz:=Nat.mul_le_mul_right _ hh
        rw [Nat.add_mul] at hm;omega
       ·right
        have hm:(i.toNat+1)*e.sz<=i'*e.sz:=Nat.mul_le_mul_right _ hh
        rw [Nat.add_mul] at hm;omega
    ·obtain ⟨a1,a2⟩:=d.dist k b' n cap (by simpa using q1) q2 ((same _ _ _ _).1 q3) q4
     exact ⟨a1,fun k' n' cap' z1 z2 z3 z4=>a2 k' n' cap' (by simpa using z1) z2 ((same _ _ _ _).1 z3) z4⟩
   have hin:∀ {b'},SlAt e (xs.set i.toNat x).length hole (splice l (i.toNat*e.sz+o) val.cells.toList) b'->SlAt e xs.length hole l b':=fun {b'} ⟨k,m,cap,q1,q2,q3,q4⟩=>⟨k,m,cap,by simpa using q1,q2,(same _ _ _ _).1 q3,q4⟩
   obtain ⟨w',s1,s2,s3⟩:=write_run (P:=P) g hc (by rw [hH];rfl) hb hl (k:=i.toNat*e.sz+o) (us:=val.cells.toList) hle (rep_one _ _ _ hrep) (fun o ho=>hfz o (by omega)) (blk:=.deep e (xs.set i.toNat x) hole)
    (fun w' ex hcl hf hoth=>by
     refine BRel.mkDeep h0 (by simpa using h1) (by simpa using h2) (fun e=>by rw [hb] at e;cases e) (fun j o' id' h=>by have:=h3' j o' id' h;simpa using this) fun b2 hb2=>?_
     rw [hb] at hb2;cases hb2
     refine ⟨_,hcl,by rw [splice_len _ _ _ hle];exact hsz,?_,fun o ho=>(hf o).trans (hfz o ho),fun j o' id' h=>?_⟩
     ·refine dnew.mono ex.f h0 (fun j o' id' h=>(h3' j o' id' h).2.2) fun b' hs=>hoth b' fun eb=>?_
      subst eb
      obtain ⟨k,m,cap,z1,z2,z3,z4⟩:=hin hs
      exact (d.dist k b' m cap z1 z2 z3 z4).1 rfl
     ·obtain ⟨c',t',n,z1,z2,z3⟩:=hho j o' id' h
      exact ⟨c',t',n,z1,z2,(same _ _ _ _).2 z3⟩)
    (fun _=>rfl) (fun w' hcl b' hi=>by rw [hH];exact (inner_iff hb hl).2 (hin ((inner_iff hb hcl).1 hi)))
   refine ⟨w',storeAt_run s1 ⟨inf,t2⟩ (by rw [t3];simpa using hvl),s2,s3⟩
 ·cases h
end
end
section
section
variable {P:Program} {F:Nat->Prop} {w:World} {β:Nat->Option Conc}
theorem killL_eq:∀ (m:List Nat) (H:Heap) (j:Nat),killL m H j=if j∈m then some .dead else H j
 | [],H,j=>by simp [killL]
 |id::m,H,j=>by
  rw [killL,killL_eq m]
  by_cases h:j∈m
  ·simp [h]
  ·rw [if_neg h]
   by_cases e:j=id
   ·subst e;simp [zJ]
   ·rw [zH e];simp [h,e]
def SlR (vs:List Value) (k b:Nat):Prop:=∃ n cap,vs[k]?=some (.slice (some ⟨b,0,none⟩) n cap)/\0<cap
theorem SlR.lt {vs:List Value} {k b:Nat} (h:SlR vs k b):k<vs.length:=by
 obtain ⟨n,cap,h,_⟩:=h
 exact (List.getElem?_eq_some_iff.1 h).1
theorem SlR.append {us ws:List Value} {k b:Nat} (h:SlR (us++ws) k b):(k<us.length/\SlR us k b)\/(us.length<=k/\SlR ws (k - us.length) b):=by
 obtain ⟨n,cap,h,hc⟩:=h
 by_cases e:k<us.length
 ·rw [List.getElem?_append_left e] at h;exact .inl ⟨e,n,cap,h,hc⟩
 ·rw [List.getElem?_append_right (by omega)] at h;exact .inr ⟨by omega,n,cap,h,hc⟩
theorem SlR.flat {t:Ty} {x:t.D} {vs:List Value} (h:rep F w t x vs) (hs:t.hasSl=false) {k b:Nat}:¬ SlR vs k b:=fun ⟨n,cap,h',_⟩=>noSl_cells _ _ _ h hs _ _ _ _ h'
theorem make_deep {X H} (g:Good X F w β H) {id0:Nat} (hid:β id0=none) {u:Ty} {xs:List u.D} {vs rest:List Value} {cap:Nat} (hk:deepK u=true) (hlen:vs.length=xs.length*u.sz) (hcap:xs.length<=cap) (hsz:(vs++rest).length=cap*u.sz)
  (hel:∀ i (h:i<xs.length),repO F w none 0 u xs[i] ((vs.drop (i*u.sz)).take u.sz)) (K:Nat->Prop) (hK:∀ j,K j->j≠id0) (hA:∀ k b,SlR vs k b->∃ j cj,K j/\β j=some cj/\Owned w cj (H j) b) (hu:∀ k k' b,SlR vs k b->SlR vs k' b->k'=k)
  {H0:Heap} (hK0:∀ j,K j->H0 j=some .dead) (hn0:∀ j,j≠id0->¬ K j->H0 j=H j) {w':World} {bn:Nat} (hcells:cellsAt w' bn=some (vs++rest)) (hw:∀ b,b≠bn->b<w.heap.size->w'.heap[b]?=w.heap[b]?) (hsize:w.heap.size<=w'.heap.size) (eo:w'.os=w.os/\w'.output=w.output)
  (hbn:(w.heap.size<=bn/\bn<w'.heap.size)\/∃ j cj,K j/\β j=some cj/\Owned w cj (H j) bn) (hbn2:∀ k,¬ SlR vs k bn) (hfz:∀ o,o<cap*u.sz->frz w' ⟨bn,o,none⟩=false) :
  Good X F w' (upd β id0 ⟨some bn,cap,.row u xs.length,none⟩) (H0.set id0 (.deep u xs none))/\Ext F w β F w' (upd β id0 ⟨some bn,cap,.row u xs.length,none⟩) /\
   RelV F w' (upd β id0 ⟨some bn,cap,.row u xs.length,none⟩) (.full id0) (.slice (some ⟨bn,0,none⟩) xs.length cap):=by
 have rel:∀ {b'},SlAt u xs.length none (vs++rest) b'->∃ k,SlR vs k b':=fun {b'} ⟨k,m,cp,q1,_,q3,q4⟩=>⟨k,m,cp,by rw [List.getElem?_append_left (by omega)] at q3;exact q3,q4⟩
 have ow:∀ {j c1 b'},(j=id0\/K j)->upd β id0 ⟨some bn,cap,.row u xs.length,none⟩ j=some c1->Owned w' c1 ((H0.set id0 (.deep u xs none)) j) b'->j=id0/\(b'=bn\/∃ k,SlR vs k b'):=fun {j c1 b'} hS hj ho=>by
  rcases hS with rfl|hS
  ·rw [upd_self] at hj;cases hj
   rw [zJ] at ho
   rcases ho.2 with h|h
   ·cases h;exact ⟨rfl,.inl rfl⟩
   ·exact ⟨rfl,.inr (rel ((inner_iff rfl hcells).1 h))⟩
  ·rw [zH (hK j hS),hK0 j hS] at ho;cases ho.1
 obtain ⟨g',ex⟩:=g.change (β':=upd β id0 ⟨some bn,cap,.row u xs.length,none⟩) (H':=H0.set id0 (.deep u xs none)) (w':=w') (fun j=>j=id0\/K j)
  (fun j c1 hj=>by rw [upd_ne (fun e=>by rw [e,hid] at hj;cases hj)];exact hj) (fun j hj=>upd_ne fun e=>hj (.inl e)) (fun j hj=>by rw [zH (fun e=>hj (.inl e)),hn0 j (fun e=>hj (.inl e)) (fun h=>hj (.inr h))]) hsize eo
  (fun b hb hno=>hw b (fun eb=>by
   subst eb
   rcases hbn with ⟨h1,_⟩|⟨j,cj,k1,k2,k3⟩
   ·omega
   ·exact hno j cj (.inr k1) k2 k3) hb)
  (fun j c1 b' hS hj ho=>by
   rcases (ow hS hj ho).2 with rfl|⟨k,hr⟩
   ·rcases hbn with h1|⟨j',cj,k1,k2,k3⟩
    ·exact .inr h1
    ·exact .inl ⟨j',cj,.inr k1,k2,k3⟩
   ·obtain ⟨j',cj,k1,k2,k3⟩:=hA k b' hr
    exact .inl ⟨j',cj,.inr k1,k2,k3⟩)
  (fun j j' c1 c2 b' hS hS' q1 q2 q3 q4=>(ow hS q1 q3).1.trans (ow hS' q2 q4).1.symm)
  (fun j c1 hS hj ex=>by
   rcases hS with rfl|hS
   ·rw [upd_self] at hj;cases hj
    refine ⟨_,zJ,BRel.mkDeep hk rfl hcap (fun e=>by cases e) (fun _ _ _ h=>by cases h) fun b2 hb2=>?_⟩
    cases hb2
    have d:DC F w none u xs bn (vs++rest):=by
     refine ⟨by rw [zL];omega,fun i hi=>?_,fun k b' n cp q1 _ q3 q4=>?_⟩
     ·have hm:(i+1)*u.sz<=xs.length*u.sz:=Nat.mul_le_mul_right _ hi
      rw [Nat.add_mul] at hm
      rw [List.drop_append_of_le_length (by omega),List.take_append_of_le_length (by simp;omega)]
      exact hel i hi
     ·have r1:SlR vs k b':=⟨n,cp,by rw [List.getElem?_append_left (by omega)] at q3;exact q3,q4⟩
      exact ⟨fun eb=>hbn2 k (eb▸r1),fun k' n' cp' z1 _ z3 z4=>hu k k' b' r1 ⟨n',cp',by rw [List.getElem?_append_left (by omega)] at z3;exact z3,z4⟩⟩
    refine ⟨_,hcells,hsz.symm,d.mono ex.f hk (fun _ _ _ h=>by cases h) (fun b' hs=>?_),hfz,fun _ _ _ h=>by cases h⟩
    obtain ⟨k,hr⟩:=rel hs
    obtain ⟨j',cj,k1,k2,k3⟩:=hA k b' hr
    exact hw b' (fun eb=>hbn2 k (eb▸hr)) (g.own' j' cj b' k2 k3).2.2
   ·exact ⟨.dead,by rw [zH (hK j hS),hK0 j hS],trivial⟩)
 exact ⟨g',ex,.one _ _ rfl (.full _ ⟨some bn,cap,.row u xs.length,none⟩ _ _ upd_self rfl hcap)⟩
theorem new_deep {X H} (g:Good X F w β H) {id0:Nat} (hid:β id0=none) {u:Ty} {xs:List u.D} {vs rest:List Value} {cap:Nat} (hk:deepK u=true) (hlen:vs.length=xs.length*u.sz) (hcap:xs.length<=cap) (hsz:(vs++rest).length=cap*u.sz)
  (hel:∀ i (h:i<xs.length),repO F w none 0 u xs[i] ((vs.drop (i*u.sz)).take u.sz)) (K:Nat->Prop) (hK:∀ j,K j->j≠id0) (hA:∀ k b,SlR vs k b->∃ j cj,K j/\β j=some cj/\Owned w cj (H j) b) (hu:∀ k k' b,SlR vs k b->SlR vs k' b->k'=k)
  {H0:Heap} (hK0:∀ j,K j->H0 j=some .dead) (hn0:∀ j,j≠id0->¬ K j->H0 j=H j) (T:TypeId) :
  ∃ c:Conc,Good X F { w with heap:=w.heap.push (.cells (vs++rest).toArray T) } (upd β id0 c) (H0.set id0 (.deep u xs none))/\Ext F w β F { w with heap:=w.heap.push (.cells (vs++rest).toArray T) } (upd β id0 c) /\
   RelV F { w with heap:=w.heap.push (.cells (vs++rest).toArray T) } (upd β id0 c) (.full id0) (.slice (some ⟨w.heap.size,0,none⟩) xs.length cap):=
 ⟨_,make_deep g hid hk hlen hcap hsz hel K hK hA hu hK0 hn0 (w':={ w with heap:=w.heap.push (.cells (vs++rest).toArray T) }) (bn:=w.heap.size) (by simpa using cellsAt_push T (vs++rest).toArray (0,0)) (fun b _ hb=>heap_push_lt hb) (by simp) ⟨rfl,rfl⟩
  (.inl ⟨Nat.le_refl _,by simp⟩) (fun k hr=>by
   obtain ⟨j,cj,_,k2,k3⟩:=hA k _ hr
   have:=(g.own' j cj _ k2 k3).2.2
   omega) (fun o _=>frozen_push T _ o)⟩
theorem packD_rel {X H} (g:Good X F w β H):∀ (u:Ty) (l:List AV) (x:u.D) (rest:List AV) (m:List Nat) (vs:List Value) (off:Nat),packD H u l=some (x,rest,m)->deepK u=true->RelCs F w β l vs ->
  ∃ us ws,vs=us++ws/\repO F w none off u x us/\RelCs F w β rest ws/\∃ f:Nat->Nat,(∀ k b,SlR us k b->∃ id c,m[f k]?=some id/\β id=some c/\Owned w c (H id) b)/\∀ k k' b b',SlR us k b->SlR us k' b'->f k=f k'->k=k':=by
 intro u
 have leaf:∀ (u:Ty) (l:List AV) (x:u.D) (rest:List AV) (m:List Nat) (vs:List Value) (off:Nat),(match l with | .dat t y::r=>(cast' y).map fun z=>(z,r,([]:List Nat))|_=>none)=some (x,rest,m)->u.hasSl=false->RelCs F w β l vs ->
   ∃ us ws,vs=us++ws/\repO F w none off u x us/\RelCs F w β rest ws/\∃ f:Nat->Nat,(∀ k b,SlR us k b->∃ id c,m[f k]?=some id/\β id=some c/\Owned w c (H id) b)/\∀ k k' b b',SlR us k b->SlR us k' b'->f k=f k'->k=k':=by
  intro u l x rest m vs off h hs hr
  split at h
  ·rename_i t y r
   obtain ⟨z,hz,h⟩:=zM.1 h
   simp only [zP] at h
   obtain ⟨rfl,rfl,rfl⟩:=h
   cases hr with
   |cons _ _ us vs h1 h2 h3=>
   cases h1 with
   |dat _ _ _ h1=>
    have h4:=(cast'_rep hz h1).2
    exact ⟨us,vs,rfl,(repO_flat _ _ _ _ hs).2 h4,h3,id,fun k b h=>(SlR.flat h4 hs h).elim,fun k k' b b' h=>(SlR.flat h4 hs h).elim⟩
  ·cases h
 induction u with
 |un=>
  intro l x rest m vs off h _ hr
  simp only [packD,zS,zP] at h
  obtain ⟨_,rfl,rfl⟩:=h
  exact ⟨[],vs,rfl,by simp only [repO,rep],hr,id,fun k b h=>by have:=h.lt;simp at this,fun k k' b b' h=>by have:=h.lt;simp at this⟩
 |pr a b iha ihb=>
  intro l x rest m vs off h hd hr
  have hd0:=hd
  simp only [deepK,Bool.and_eq_true] at hd
  have comp:((packD H a l).bind fun p=>(packD H b p.2.1).bind fun q=>some ((p.1,q.1),q.2.1,p.2.2++q.2.2))=some (x,rest,m)->∃ us ws,vs=us++ws/\repO F w none off (.pr a b) x us/\RelCs F w β rest ws /\
    ∃ f:Nat->Nat,(∀ k b,SlR us k b->∃ id c,m[f k]?=some id/\β id=some c/\Owned w c (H id) b)/\∀ k k' b b',SlR us k b->SlR us k' b'->f k=f k'->k=k':=by
   intro h
   obtain ⟨⟨y,l1,m1⟩,h1,h⟩:=zB.1 h
   obtain ⟨⟨z,l2,m2⟩,h2,h⟩:=zB.1 h
   simp only [zS,zP] at h
   obtain ⟨rfl,rfl,rfl⟩:=h
   obtain ⟨us1,ws1,rfl,r1,r2,f1,f2,f3⟩:=iha _ _ _ _ _ off h1 hd.1 hr
   obtain ⟨us2,ws2,rfl,r3,r4,g1,g2,g3⟩:=ihb _ _ _ _ _ (off+a.sz) h2 hd.2 r2
   refine ⟨us1++us2,ws2,by simp,by simp only [repO];exact ⟨us1,us2,rfl,r1,r3⟩,r4,fun k=>if k<us1.length then f1 k else m1.length+g1 (k - us1.length),fun k b' h=>?_,fun k k' b' b'' h h' e=>?_⟩
   ·rcases h.append with ⟨e1,h⟩|⟨e1,h⟩
    ·obtain ⟨id,c,q1,q2⟩:=f2 k b' h
     refine ⟨id,c,?_,q2⟩
     show (m1++m2)[if k<us1.length then f1 k else m1.length+g1 (k - us1.length)]?=some id
     rw [if_pos e1,List.getElem?_append_left (List.getElem?_eq_some_iff.1 q1).1];exact q1
    ·obtain ⟨id,c,q1,q2⟩:=g2 _ b' h
     refine ⟨id,c,?_,q2⟩
     show (m1++m2)[if k<us1.length then f1 k else m1.length+g1 (k - us1.length)]?=some id
     rw [if_neg (by omega),List.getElem?_append_right (by omega),Nat.add_sub_cancel_left];exact q1
   ·simp only at e
    rcases h.append with ⟨e1,h⟩|⟨e1,h⟩
    ·rcases h'.append with ⟨e2,h'⟩|⟨e2,h'⟩
     ·rw [if_pos e1,if_pos e2] at e;exact f3 k k' b' b'' h h' e
     ·rw [if_pos e1,if_neg (by omega)] at e
      obtain ⟨id,c,q1,_⟩:=f2 k b' h
      have:=(List.getElem?_eq_some_iff.1 q1).1
      omega
    ·rcases h'.append with ⟨e2,h'⟩|⟨e2,h'⟩
     ·rw [if_neg (by omega),if_pos e2] at e
      obtain ⟨id,c,q1,_⟩:=f2 k' b'' h'
      have:=(List.getElem?_eq_some_iff.1 q1).1
      omega
     ·rw [if_neg (by omega),if_neg (by omega)] at e
      have:=g3 _ _ b' b'' h h' (by omega)
      omega
  simp only [packD] at h
  split at h
  ·rename_i t y r
   split at h
   ·exact comp h
   ·rename_i hs
    split at h
    ·exact leaf _ (.dat t y::r) _ _ _ _ off h (by simpa using hs) hr
    ·exact comp h
  ·exact comp h
 |sl e ih=>
  intro l x rest m vs off h hd hr
  simp only [packD] at h
  split at h
  ·simp only [zS,zP] at h
   obtain ⟨rfl,rfl,rfl⟩:=h
   cases hr with
   |cons _ _ us vs h1 h2 h3=>
   cases h1
   refine ⟨[_],vs,rfl,?_,h3,id,fun k b h=>?_,fun k k' b b' h=>?_⟩
   ·simp only [repO];exact ⟨none,0,0,rfl,fun _=>⟨rfl,Nat.le_refl _,.inl rfl⟩⟩
   ·obtain ⟨n,cap,h,hc⟩:=h
    cases k<;>simp at h
   ·obtain ⟨n,cap,h,hc⟩:=h
    cases k<;>simp at h
  ·rename_i id r
   split at h
   ·rename_i t ys hH
    obtain ⟨zs,hz,h⟩:=zM.1 h
    simp only [zP] at h
    obtain ⟨rfl,rfl,rfl⟩:=h
    obtain ⟨ee,he⟩:=castL_some hz
    subst ee
    have he':zs=ys:=he
    subst he'
    cases hr with
    |cons _ _ us vs h1 h2 h3=>
    cases h1 with
    |full _ c t' len hc hsh hle=>
    obtain ⟨blk,hb1,hb2⟩:=g.hr id c hc
    rw [hH] at hb1;cases hb1
    have hl:len=zs.length:=by have:=hb2.1;rw [hsh] at this;injection this
    subst hl
    refine ⟨[_],vs,rfl,by simp only [repO];exact ⟨_,_,_,rfl,fun _=>hb2.ownS⟩,h3,fun _=>0,fun k b h=>?_,fun k k' b b' h h' _=>?_⟩
    ·obtain ⟨n,cap,h,hcap⟩:=h
     cases k with
     |zero=>
      simp only [List.getElem?_cons_zero,zS,Value.slice.injEq] at h
      exact ⟨id,c,rfl,hc,by rw [hH];exact ⟨rfl,.inl (Conc.adr_own (fun e=>(hb2.2.2.1 e).2) h.1 (by omega))⟩⟩
     |succ k=>simp at h
    ·have:=h.lt;have:=h'.lt;simp at *;omega
   ·cases h
  ·cases h
 |int k=>intro l x rest m vs off h _ hr;exact leaf (.int k) l x rest m vs off h rfl hr
 |bool=>intro l x rest m vs off h _ hr;exact leaf .bool l x rest m vs off h rfl hr
 |str=>intro l x rest m vs off h _ hr;exact leaf .str l x rest m vs off h rfl hr
 |ar n e=>intro l x rest m vs off h hd hr;exact leaf (.ar n e) l x rest m vs off h (by simpa [deepK] using hd) hr
theorem nodup_get:∀ {m:List Nat} {i j x:Nat},nodupB m=true->m[i]?=some x->m[j]?=some x->i=j:=fun {m i j x} hn h1 h2=>by
 have e1:=idxOf_get (k:=0) hn h1
 have e2:=idxOf_get (k:=0) hn h2
 rw [e1] at e2
 injection e2 with e2;omega
theorem sim_buildD {X H} (g:Good X F w β H) {id0:Nat} (hid:β id0=none) {T:TypeId} {v x:AV} {H':Heap} {hd:Bool} (h:exBuildD P T H id0 v=some (x,H',hd)) {val:Value} (hv:RelV F w β v val) :
  ∃ r w',(Instr.buildSlice T 1 #[(0,val)]).run P w=.ok r w'/\Left X F w β H' id0 x r w':=by
 unfold exBuildD at h
 obtain ⟨⟨e,u⟩,hT,h⟩:=zB.1 h
 simp only at h
 split at h
 ·cases h
 rename_i hc
 split at h
 ·rename_i y m hp
  split at h
  ·rename_i hvm
   simp only [Bool.and_eq_true] at hvm
   obtain ⟨z,hz,h⟩:=zB.1 h
   simp only [zS,zP] at h
   obtain ⟨rfl,rfl,rfl⟩:=h
   have hk:deepK u=true:=by
    cases hh:deepK u with
    |true=>rfl
    |false=>exact absurd (.inl hh) hc
   have hc1:u.sz≠0:=fun e=>hc (.inr (.inl e))
   have hc2:¬ 2 ^ 24<u.sz:=fun e=>hc (.inr (.inr e))
   obtain ⟨hT1,hT2⟩:=elemTy_some hT
   obtain ⟨_,⟨inf,hi⟩,hsz,_,_⟩:=tyC_some hT2
   obtain ⟨zv,hzv,hzr⟩:=zeroD_rep (F:=F) (w:=w) hz
   obtain ⟨hz1,_⟩:=zero_run (P:=P) (w:=w) hzv
   have hzs:zv.cells.size=u.sz:=by have:=rep_len _ _ _ hzr;simpa using this
   obtain ⟨us,ws,h1,h2,h3,f,f1,f2⟩:=packD_rel g u _ y [] m _ 0 hp hk (hv.leaves' hvm.1.1)
   cases h3
   rw [List.append_nil] at h1
   have hul:=repO_len h2
   obtain ⟨arr,h4,h5⟩:=fill_step (place:=fun i=>some (i*u.sz,u.sz)) (cs:=(Array.range (1*u.sz)).map fun i=>zv.cells[i % zv.cells.size]!) (rest:=[]) (i:=0) (v:=val) rfl (by rw [←hul,←h1];simp) (by simp)
   have harr:arr.toList=us:=by
    rw [h4,h1,Nat.zero_mul,splice_all _ _ (by simp [hul])]
   have hfill:Instr.fill (fun i=>some (i*u.sz,u.sz)) ((Array.range (1*u.sz)).map fun i=>zv.cells[i % zv.cells.size]!) [(0,val)]=some arr:=by rw [h5];rfl
   obtain ⟨c,g',ex,rv⟩:=new_deep g hid (u:=u) (xs:=[y]) (vs:=us) (rest:=[]) (cap:=1) hk (by simp [hul]) (by simp) (by simp [hul]) (fun i hi=>by
     have:i=0:=by simpa using hi
     subst this
     simp only [Nat.zero_mul,List.drop_zero,List.getElem_cons_zero]
     rw [List.take_of_length_le (by omega)];exact h2) (fun j=>j∈m) (fun j hj e=>by
     subst e
     have:=hvm.2
     simp [hj] at this) (fun k b hr=>by
     obtain ⟨id,c,q1,q2,q3⟩:=f1 k b hr
     exact ⟨id,c,List.mem_of_getElem? q1,q2,q3⟩) (fun k k' b hr hr'=>by
     obtain ⟨id,c,q1,q2,q3⟩:=f1 k b hr
     obtain ⟨id',c',q1',q2',q3'⟩:=f1 k' b hr'
     have:=g.uniq' id id' c c' b q2 q2' q3 q3'
     subst this
     exact (f2 k k' b b hr hr' (nodup_get hvm.1.2 q1 q1')).symm) (H0:=killL m H) (fun j hj=>by rw [killL_eq,if_pos hj]) (fun j _ hj=>by rw [killL_eq,if_neg hj]) e
   refine ⟨.slice (some ⟨w.heap.size,0,none⟩) 1 1,_,?_,F,upd β id0 c,g',ex,rv,fun j hj=>?_⟩
   ·unfold Instr.buildSlice
    simp only [Sem.run_bind,und hT1,Result.andThen_ok,sizeOf_run hi,hsz]
    rw [if_neg (by omega)]
    simp only [pure,Sem.run,Result.andThen_ok,Sem.run_bind]
    rw [if_neg (by omega)]
    simp only [pure,Sem.run,Result.andThen_ok,Sem.run_bind,hz1,hfill,newRow_run]
    have e6:(us++([]:List Value)).toArray=arr:=by rw [List.append_nil,←harr]
    rw [e6]
   ·by_cases e':j=id0
    ·exact .inr e'
    ·left;rw [upd_ne e'] at hj;exact hj
  ·cases h
 ·cases h
end
end
section
section
variable {P:Program} {F:Nat->Prop} {w:World} {β:Nat->Option Conc}
theorem deep_src {X H} (g:Good X F w β H) {id:Nat} {c:Conc} (hc:β id=some c) {u:Ty} {xs:List u.D} (hH:H id=some (.deep u xs none)) :
  deepK u=true/\c.sh=.row u xs.length/\xs.length<=c.cap/\∃ vs:List Value,vs.length=xs.length*u.sz/\(∀ i (h:i<xs.length),repO F w none 0 u xs[i] ((vs.drop (i*u.sz)).take u.sz))/\(∀ k b,SlR vs k b->Owned w c (H id) b/\c.b≠some b) /\
   (∀ k k' b,SlR vs k b->SlR vs k' b->k'=k)/\(∀ w',w'.heap=w.heap->(Builtin.firstCells u.sz xs.length (.slice c.adr xs.length c.cap)).run P w'=.ok vs.toArray w')/\(c.b=none->xs=[]/\c.cap=0) /\
   ∀ b,c.b=some b->Owned w c (H id) b/\∃ rest,cellsAt w b=some (vs++rest)/\(vs++rest).length=c.cap*u.sz/\∀ o,o<c.cap*u.sz->frz w ⟨b,o,none⟩=false:=by
 obtain ⟨blk,hb1,hb2⟩:=g.hr id c hc
 rw [hH] at hb1;cases hb1
 obtain ⟨h0,h1,h2,h3,_,h4⟩:=hb2.deepD
 refine ⟨h0,h1,h2,?_⟩
 cases hb:c.b with
 |none=>
  obtain ⟨e1,e2,_⟩:=h3 hb
  subst e1
  refine ⟨[],by simp,fun i hi=>by simp at hi,fun k b h=>by have:=h.lt;simp at this,fun k k' b h=>by have:=h.lt;simp at this,fun w' _=>empty_first,fun _=>⟨rfl,e2⟩,fun b e=>by cases e⟩
 |some b=>
  obtain ⟨l,hl,hsz,d,hfz,_⟩:=h4 b hb
  have hdl:=d.len
  have hown:Owned w c (H id) b:=by rw [hH];exact ⟨rfl,.inl hb⟩
  have tk:∀ {k},k<xs.length*u.sz->(l.take (xs.length*u.sz))[k]?=l[k]?:=fun {k} h=>List.getElem?_take_of_lt h
  have rel:∀ {k b'},SlR (l.take (xs.length*u.sz)) k b'->∃ n cap,k<xs.length*u.sz/\l[k]?=some (.slice (some ⟨b',0,none⟩) n cap)/\0<cap:=fun {k b'} h=>by
   have hlt:=h.lt
   have hlt':k<xs.length*u.sz:=by simp at hlt;omega
   obtain ⟨n,cap,h,hc⟩:=h
   rw [tk hlt'] at h
   exact ⟨n,cap,hlt',h,hc⟩
  refine ⟨l.take (xs.length*u.sz),by simp;omega,fun i hi=>?_,fun k b' h=>?_,fun k k' b' h h'=>?_,fun w' hw'=>?_,(fun e=>by cases e),fun b2 e=>?_⟩
  ·have hm:(i+1)*u.sz<=xs.length*u.sz:=Nat.mul_le_mul_right _ hi
   rw [Nat.add_mul] at hm
   have:=d.el i hi
   have e0:=seg_seg l (a:=0) (n:=xs.length*u.sz) (b:=i*u.sz) (m:=u.sz) (by omega)
   rw [List.drop_zero,Nat.zero_add] at e0
   rw [e0];exact this
  ·obtain ⟨n,cap,q1,q2,q3⟩:=rel h
   refine ⟨by rw [hH];exact ⟨rfl,.inr ((inner_iff hb hl).2 ⟨k,n,cap,q1,by simp [holeCell],q2,q3⟩)⟩,fun e=>?_⟩
   cases e
   exact (d.dist k b n cap q1 (by simp [holeCell]) q2 q3).1 rfl
  ·obtain ⟨n,cap,q1,q2,q3⟩:=rel h
   obtain ⟨n',cap',q1',q2',q3'⟩:=rel h'
   exact (d.dist k b' n cap q1 (by simp [holeCell]) q2 q3).2 k' n' cap' q1' (by simp [holeCell]) q2' q3'
  ·rw [Conc.adr_some hb]
   simp only [Builtin.firstCells]
   exact load_run ⟨l,(by unfold cellsAt at hl ⊢;rw [hw'];exact hl),by omega,by rw [List.drop_zero]⟩
  ·cases e
   exact ⟨hown,l.drop (xs.length*u.sz),by rw [List.take_append_drop];exact hl,by rw [List.take_append_drop];exact hsz.symm,hfz⟩
theorem repO_one {ho:Option Nat}:∀ (t:Ty) (off:Nat) (x:t.D) (vs:List Value),repO F w ho off t x vs->∀ v∈vs,v.oneCell'=true
 |.sl e,off,xs,vs,h=>by simp only [repO] at h;obtain ⟨A,n,c,rfl,_⟩:=h;intro v hv;simp at hv;subst hv;rfl
 |.pr a b,off,x,vs,h=>by
  simp only [repO] at h
  obtain ⟨us,ws,rfl,h1,h2⟩:=h
  intro v hv
  rcases List.mem_append.1 hv with h|h
  ·exact repO_one a _ _ _ h1 v h
  ·exact repO_one b _ _ _ h2 v h
 |.int k,_,x,vs,h=>rep_one _ _ _ h
 |.bool,_,x,vs,h=>rep_one _ _ _ h
 |.str,_,x,vs,h=>rep_one _ _ _ h
 |.un,_,x,vs,h=>rep_one _ _ _ h
 |.ar n e,_,x,vs,h=>rep_one _ _ _ h
theorem el_append {u:Ty} {xs ys:List u.D} {vs us:List Value} (hv:vs.length=xs.length*u.sz) (hu:us.length=ys.length*u.sz) (h1:∀ i (h:i<xs.length),repO F w none 0 u xs[i] ((vs.drop (i*u.sz)).take u.sz))
  (h2:∀ i (h:i<ys.length),repO F w none 0 u ys[i] ((us.drop (i*u.sz)).take u.sz)):∀ i (h:i<(xs++ys).length),repO F w none 0 u (xs++ys)[i] (((vs++us).drop (i*u.sz)).take u.sz):=fun i hi=>by
 by_cases hlt:i<xs.length
 ·have hm:(i+1)*u.sz<=xs.length*u.sz:=Nat.mul_le_mul_right _ hlt
  rw [Nat.add_mul] at hm
  rw [List.getElem_append_left hlt,List.drop_append_of_le_length (by omega),List.take_append_of_le_length (by simp;omega)]
  exact h1 i hlt
 ·simp only [zL] at hi
  rw [List.getElem_append_right (by omega)]
  have hm:xs.length*u.sz<=i*u.sz:=Nat.mul_le_mul_right _ (by omega)
  rw [List.drop_append,List.drop_of_length_le (by omega),List.nil_append]
  have:=h2 (i - xs.length) (by omega)
  rw [show i*u.sz - vs.length=(i - xs.length)*u.sz by rw [hv,Nat.sub_mul]]
  exact this
theorem growD {X H} (g:Good X F w β H) {id0:Nat} (hid:β id0=none) {T U ty e:TypeId} {u:Ty} (hT:elemTy P T=some (e,u)) (hU:∃ d,P.underlying U=some d/\∀ k,d≠.int k) {z:u.D} (hz:zeroD P e u=some z) (hb0:¬ P.bytesOf e=0) (hk:deepK u=true)
  {ys zs:List u.D} {us vsb:List Value} {A B:Option Addr} {cap capb:Nat} (hyl:vsb.length=ys.length*u.sz) (hyel:∀ i (h:i<ys.length),repO F w none 0 u ys[i] ((vsb.drop (i*u.sz)).take u.sz)) (hnew:∀ w',w'.heap=w.heap->(Builtin.firstCells u.sz ys.length (.slice B ys.length capb)).run P w'=.ok vsb.toArray w')
  (K:Nat->Prop) {H0:Heap} (hul:us.length=zs.length*u.sz) (hel:∀ i (h:i<zs.length),repO F w none 0 u zs[i] ((us.drop (i*u.sz)).take u.sz)) (hneed:cap<zs.length+ys.length) (hbytes:(zs.length+ys.length)*P.bytesOf e<=maxBytes)
  (hold:∀ w',w'.heap=w.heap->(Builtin.firstCells u.sz zs.length (.slice A zs.length cap)).run P w'=.ok us.toArray w') (hK:∀ j,K j->j≠id0) (hA:∀ k b,SlR (us++vsb) k b->∃ j cj,K j/\β j=some cj/\Owned w cj (H j) b) (hu:∀ k k' b,SlR (us++vsb) k b->SlR (us++vsb) k' b->k'=k)
  (hK0:∀ j,K j->H0 j=some .dead) (hn0:∀ j,j≠id0->¬ K j->H0 j=H j) :
  ∃ r w',(Builtin.append_ #[T,U] ty #[.slice A zs.length cap,.slice B ys.length capb]).run P w=.ok r w'/\Left X F w β (H0.set id0 (.deep u (zs++ys) none)) id0 (.full id0) r w':=by
 obtain ⟨hT1,hT2⟩:=elemTy_some hT
 obtain ⟨zv,hz1,hz2⟩:=zeroD_rep (F:=F) (w:=w) hz
 have hzs:zv.cells.size=u.sz:=by have:=rep_len _ _ _ hz2;simpa using this
 have hlen:(Builtin.lenOf (.slice B ys.length capb)).run P w=.ok ys.length w:=by simp [Builtin.lenOf,pure,Sem.run]
 have hrun:=grow_run (P:=P) (w:=w) hT1 hU hT2 hz1 ty hlen hneed hbytes hb0 hold hnew
 have hgc:=le_grownCap (w:=w) (zs.length+ys.length) cap e
 obtain ⟨c,g',ex,rv⟩:=new_deep g hid (u:=u) (xs:=zs++ys) (vs:=us++vsb) (rest:=(Builtin.zeroCells zv.cells (grownCap w (zs.length+ys.length) cap e - (zs.length+ys.length))).toList) (cap:=grownCap w (zs.length+ys.length) cap e)
  hk (by simp [hul,hyl,Nat.add_mul]) (by rw [zL];exact hgc) (by
   simp only [zL,Array.length_toList,zeroCells_size,hzs,hul,hyl]
   rw [←Nat.add_mul,←Nat.add_mul]
   congr 1;omega) (el_append hul hyl hel hyel) K hK hA hu hK0 hn0 e
 have hcells:us.toArray++vsb.toArray++Builtin.zeroCells zv.cells (grownCap w (zs.length+ys.length) cap e - (zs.length+ys.length)) =
   (us++vsb++(Builtin.zeroCells zv.cells (grownCap w (zs.length+ys.length) cap e - (zs.length+ys.length))).toList).toArray:=by
  apply Array.ext';simp
 rw [hcells] at hrun
 refine ⟨_,_,hrun,F,upd β id0 c,g'.same rfl ⟨rfl,rfl⟩,ex.trans (Ext.same rfl),?_,fun j hj=>?_⟩
 ·have hx:RelV F { w with drawn:=w.drawn+1,heap:=w.heap.push (.cells (us++vsb++(Builtin.zeroCells zv.cells (grownCap w (zs.length+ys.length) cap e - (zs.length+ys.length))).toList).toArray e) } (upd β id0 c)
    (.full id0) (.slice (some ⟨w.heap.size,0,none⟩) (zs++ys).length (grownCap w (zs.length+ys.length) cap e)):=by
   refine RelV.same ?_ rv
   rfl
  rw [zL] at hx
  exact hx
 ·by_cases e':j=id0
  ·exact .inr e'
  ·left;rw [upd_ne e'] at hj;exact hj
theorem sim_appendD {X H} (g:Good X F w β H) {id0:Nat} (hid:β id0=none) {T U ty:TypeId} {a x:AV} {idb:Nat} {H':Heap} {hd:Bool} (h:exAppendD P T U H id0 a idb=some (x,H',hd)) {va vb:Value} (ha:RelV F w β a va) (hb:RelV F w β (.full idb) vb) :
  ∃ r w',(Builtin.append_ #[T,U] ty #[va,vb]).run P w=.ok r w'/\Left X F w β H' id0 x r w':=by
 unfold exAppendD at h
 split at h
 ·rename_i eu hU0
  have hU:∃ d,P.underlying U=some d/\∀ k,d≠.int k:=⟨_,hU0,fun k e=>by cases e⟩
  obtain ⟨⟨e,u⟩,hT,h⟩:=zB.1 h
  obtain ⟨z,hz,h⟩:=zB.1 h
  simp only at h
  obtain ⟨hT1,hT2⟩:=elemTy_some hT
  split at h
  ·cases h
  rename_i hb0
  obtain ⟨cb,tb,lenb,rfl,hcb,hshb,hleb⟩:=hb.full_inv
  have hneb:idb≠id0:=fun e=>by rw [e,hid] at hcb;cases hcb
  split at h
  ·
   split at h
   ·rename_i u' ys' hHb
    obtain ⟨ys,hys,h9⟩:=zB.1 h
    clear h
    obtain ⟨ee,he⟩:=castL_some hys
    subst ee
    have he':ys=ys':=he
    subst he'
    split at h9
    ·rename_i hbytes
     simp only [zS,zP] at h9
     obtain ⟨rfl,rfl,_⟩:=h9
     obtain ⟨hk,s1,s2,vsb,v1,v2,v3,v4,v5,v6,v7⟩:=deep_src (P:=P) g hcb hHb
     have hlb:lenb=ys.length:=by rw [hshb] at s1;injection s1
     subst hlb
     have hlen:(Builtin.lenOf (.slice cb.adr ys.length cb.cap)).run P w=.ok ys.length w:=by simp [Builtin.lenOf,pure,Sem.run]
     rw [ha.nilS_inv]
     by_cases hn:ys.length=0
     ·have hnil:ys=[]:=List.eq_nil_of_length_eq_zero hn
      subst hnil
      obtain ⟨g',ex,rv⟩:=(g.kill idb).emptyB hid u' none (.inr ⟨hk,rfl⟩)
      refine ⟨_,w,nil_room_run hT1 hU hT2 ty hlen (v5 w rfl),F,_,g',ex,rv,fun j hj=>?_⟩
      by_cases e':j=id0
      ·exact .inr e'
      ·left;rw [upd_ne e'] at hj;exact hj
     ·have:=growD (ty:=ty) (zs:=[]) (us:=[]) (A:=none) (cap:=0) g hid hT hU hz hb0 hk v1 v2 v5 (fun j=>j=idb) (H0:=H.set idb .dead) (by simp) (fun i hi=>by simp at hi) (by simp;omega) (by simpa using hbytes) (fun w' _=>none_first)
       (fun j hj=>by rw [hj];exact hneb) (fun k b hr=>⟨idb,cb,rfl,hcb,(v3 k b (by simpa using hr)).1⟩) (fun k k' b h h'=>v4 k k' b (by simpa using h) (by simpa using h')) (fun j hj=>by rw [hj,zJ]) (fun j _ hj=>by rw [zH hj])
      simpa using this
    ·cases h9
   ·cases h
  ·rename_i ida _ _
   split at h
   ·cases h
   rename_i hab
   obtain ⟨⟨u'',xs0,H1⟩,hcl,h⟩:=zB.1 h
   (try simp only at h)
   split at h
   ·rename_i u' ys' hHb
    obtain ⟨xs,hxs,h8⟩:=zB.1 h
    obtain ⟨ys,hys,h9⟩:=zB.1 h8
    clear h h8
    obtain ⟨ee,he⟩:=castL_some hxs
    (try simp only at ee)
    subst ee
    have he':xs=xs0:=he
    subst he'
    obtain ⟨ee,he⟩:=castL_some hys
    subst ee
    have he':ys=ys':=he
    subst he'
    split at h9
    ·rename_i hbytes
     simp only [zS,zP] at h9
     obtain ⟨rfl,rfl,_⟩:=h9
     obtain ⟨ca,ta,lena,rfl,hca,hsha,hlea⟩:=ha.full_inv
     have hnea:ida≠id0:=fun e=>by rw [e,hid] at hca;cases hca
     obtain ⟨g1,hHa,hnone⟩:=closeD_good g hca hcl
     obtain ⟨hk,s1,s2,vsb,v1,v2,v3,v4,v5,v6,v7⟩:=deep_src (P:=P) g1 hcb hHb
     obtain ⟨_,t1,t2,vsa,w1,w2,w3,w4,w5,w6,w7⟩:=deep_src (P:=P) g1 hca hHa
     have hlb:lenb=ys.length:=by rw [hshb] at s1;injection s1
     subst hlb
     have hla:lena=xs.length:=by rw [hsha] at t1;injection t1
     subst hla
     have hlen:(Builtin.lenOf (.slice cb.adr ys.length cb.cap)).run P w=.ok ys.length w:=by simp [Builtin.lenOf,pure,Sem.run]
     have hA:∀ k b,SlR (vsa++vsb) k b->∃ j cj,(j=ida\/j=idb)/\β j=some cj/\Owned w cj (H1 j) b:=fun k b hr=>by
      rcases hr.append with ⟨_,h⟩|⟨_,h⟩
      ·exact ⟨ida,ca,.inl rfl,hca,(w3 _ _ h).1⟩
      ·exact ⟨idb,cb,.inr rfl,hcb,(v3 _ _ h).1⟩
     have hu:∀ k k' b,SlR (vsa++vsb) k b->SlR (vsa++vsb) k' b->k'=k:=fun k k' b h h'=>by
      rcases h.append with ⟨e1,h⟩|⟨e1,h⟩
      ·rcases h'.append with ⟨e2,h'⟩|⟨e2,h'⟩
       ·exact w4 k k' b h h'
       ·exact absurd (g1.uniq' ida idb ca cb b hca hcb (w3 _ _ h).1 (v3 _ _ h').1) hab
      ·rcases h'.append with ⟨e2,h'⟩|⟨e2,h'⟩
       ·exact absurd (g1.uniq' ida idb ca cb b hca hcb (w3 _ _ h').1 (v3 _ _ h).1) hab
       ·have:=v4 _ _ b h h';omega
     have hdead:∀ j,(j=ida\/j=idb)->((H1.set ida .dead).set idb .dead) j=some .dead:=fun j hj=>by
      rcases hj with rfl|rfl
      ·rw [zH hab,zJ]
      ·rw [zJ]
     have hrest:∀ j,j≠id0->¬ (j=ida\/j=idb)->((H1.set ida .dead).set idb .dead) j=H1 j:=fun j _ hj=>by rw [zH (fun e=>hj (.inr e)),zH (fun e=>hj (.inl e))]
     by_cases hroom:xs.length+ys.length<=ca.cap
     ·cases hab':ca.b with
      |none=>
       obtain ⟨e1,e2⟩:=w6 hab'
       subst e1
       rw [e2] at hroom ⊢
       have hn:ys=[]:=List.eq_nil_of_length_eq_zero (by simpa using hroom)
       subst hn
       have hv0:vsb=[]:=List.eq_nil_of_length_eq_zero (by rw [v1];simp)
       subst hv0
       obtain ⟨g',ex,rv⟩:=((g1.kill ida).kill idb).emptyB hid u' ca.adr (.inr ⟨hk,rfl⟩)
       refine ⟨_,w,empty_room_run hT1 hU hT2 ty hlen (v5 w rfl),F,_,g',ex,rv,fun j hj=>?_⟩
       by_cases e':j=id0
       ·exact .inr e'
       ·left;rw [upd_ne e'] at hj;exact hj
      |some ba=>
       obtain ⟨y1,rest,y2,y3,y4⟩:=w7 ba hab'
       have hm:(xs.length+ys.length)*u'.sz<=ca.cap*u'.sz:=Nat.mul_le_mul_right _ hroom
       rw [Nat.add_mul] at hm
       have hone:∀ v∈vsb,v.oneCell'=true:=by
        intro v hv
        obtain ⟨k,hk',hvk⟩:=List.mem_iff_getElem.1 hv
        have hpos:0<u'.sz:=by
         rcases Nat.eq_zero_or_pos u'.sz with h|h
         ·rw [h] at v1;omega
         ·exact h
        have hi:k / u'.sz<ys.length:=(Nat.div_lt_iff_lt_mul hpos).2 (by omega)
        refine repO_one _ _ _ _ (v2 _ hi) v (List.mem_of_getElem? (i:=k % u'.sz) ?_)
        rw [seg_get,if_pos (Nat.mod_lt _ hpos),Nat.mul_comm,Nat.div_add_mod,List.getElem?_eq_getElem hk',hvk]
       obtain ⟨w',q1,q2,q3,q4,q5,q6⟩:=store_run (P:=P) vsb w ba (xs.length*u'.sz) 0 (vsa++rest) y2 (by omega) (fun k hk=>by
        rcases Nat.lt_or_ge (xs.length*u'.sz+0+k) (ca.cap*u'.sz) with hh|hh
        ·rw [y4 _ hh] at hk;cases hk
        ·omega) hone
       rw [Nat.add_zero] at q4
       have hsp:splice (vsa++rest) (xs.length*u'.sz) vsb=vsa++vsb++rest.drop vsb.length:=by
        unfold splice
        rw [←w1,List.take_left',List.drop_append,List.drop_of_length_le (by omega),Nat.add_sub_cancel_left]
        ·simp
        ·rfl
       rw [hsp] at q4
       simp only [zL] at y3
       obtain ⟨g',ex,rv⟩:=make_deep g1 hid (u:=u') (xs:=xs++ys) (vs:=vsa++vsb) (rest:=rest.drop vsb.length) (cap:=ca.cap) hk (by simp [w1,v1,Nat.add_mul]) (by rw [zL];exact hroom)
        (by simp only [zL,List.length_drop];omega) (el_append w1 v1 w2 v2) (fun j=>j=ida\/j=idb) (fun j hj=>by rcases hj with rfl|rfl<;>assumption) hA hu hdead hrest (w':=w') (bn:=ba) q4 (fun b hb _=>q3 b hb) (by omega) q6
        (.inr ⟨ida,ca,.inl rfl,hca,y1⟩) (fun k hr=>by
         rcases hr.append with ⟨_,h⟩|⟨_,h⟩
         ·exact (w3 _ _ h).2 hab'
         ·exact hab (g1.uniq' ida idb ca cb ba hca hcb y1 (v3 _ _ h).1)) (fun o ho=>(q5 ba o).trans (y4 o ho))
       refine ⟨_,w',by rw [Conc.adr_some hab'];exact room_run hT1 hU hT2 ty hlen hroom (v5 w rfl) q1,F,_,g',ex,?_,fun j hj=>?_⟩
       ·simpa only [zL] using rv
       ·by_cases e':j=id0
        ·exact .inr e'
        ·left;rw [upd_ne e'] at hj;exact hj
     ·exact growD (ty:=ty) g1 hid hT hU hz hb0 hk v1 v2 v5 (fun j=>j=ida\/j=idb) w1 w2 (by omega) hbytes w5 (fun j hj=>by rcases hj with rfl|rfl<;>assumption) hA hu hdead hrest
    ·cases h9
   ·cases h
  ·cases h
 ·cases h
end
end
section
section
variable {P:Program} {F:Nat->Prop} {w:World} {β:Nat->Option Conc}
theorem decU_repO:∀ (u:Ty) (l:List Value) (x:u.D) (r:List Value) (off:Nat),decU u l=some (x,r)->deepK u=true->∃ us,l=us++r/\repO F w none off u x us/\∀ k b,¬ SlR us k b:=by
 intro u
 have flat:∀ (u:Ty) (l:List Value) (x:u.D) (r:List Value) (off:Nat),decU u l=some (x,r)->u.hasSl=false->∃ us,l=us++r/\repO F w none off u x us/\∀ k b,¬ SlR us k b:=fun u l x r off h hs=>by
  obtain ⟨us,h1,h2⟩:=decU_rep (F:=F) (w:=w) u l x r h
  exact ⟨us,h1,(repO_flat _ _ _ _ hs).2 h2,fun k b=>SlR.flat h2 hs⟩
 induction u with
 |sl e ih=>
  intro l x r off h _
  simp only [decU] at h
  split at h
  ·cases h
   refine ⟨[_],rfl,?_,fun k b hr=>?_⟩
   ·simp only [repO];exact ⟨none,0,0,rfl,fun _=>⟨rfl,Nat.le_refl _,.inl rfl⟩⟩
   ·obtain ⟨n,cap,h,_⟩:=hr
    cases k<;>simp at h
  ·cases h
 |pr a b iha ihb=>
  intro l x r off h hd
  simp only [deepK,Bool.and_eq_true] at hd
  simp only [decU] at h
  split at h
  ·rename_i y l1 h1
   split at h
   ·rename_i z l2 h2
    cases h
    obtain ⟨us,rfl,q1,q2⟩:=iha _ _ _ off h1 hd.1
    obtain ⟨ws,rfl,q3,q4⟩:=ihb _ _ _ (off+a.sz) h2 hd.2
    refine ⟨us++ws,by simp,by simp only [repO];exact ⟨us,ws,rfl,q1,q3⟩,fun k b hr=>?_⟩
    rcases hr.append with ⟨_,h⟩|⟨_,h⟩
    ·exact q2 _ _ h
    ·exact q4 _ _ h
   ·cases h
  ·cases h
 |int k=>intro l x r off h _;exact flat _ _ _ _ _ h rfl
 |bool=>intro l x r off h _;exact flat _ _ _ _ _ h rfl
 |str=>intro l x r off h _;exact flat _ _ _ _ _ h rfl
 |un=>intro l x r off h _;exact flat _ _ _ _ _ h rfl
 |ar n e=>intro l x r off h hd;exact flat _ _ _ _ _ h (by simpa [deepK] using hd)
theorem zeroD_repO {T:TypeId} {u:Ty} {x:u.D} (hk:deepK u=true) (h:zeroD P T u=some x):∃ z,zeroOf P T=some z/\repO F w none 0 u x z.cells.toList/\∀ k b,¬ SlR z.cells.toList k b:=by
 unfold zeroD at h
 split at h
 ·rename_i z hz
  split at h
  ·rename_i y hd
   cases h
   obtain ⟨us,h1,h2,h3⟩:=decU_repO (F:=F) (w:=w) _ _ _ _ 0 hd hk
   rw [List.append_nil] at h1
   exact ⟨z,hz,h1▸h2,h1▸h3⟩
  ·cases h
 ·cases h
theorem zeros_seg {zc:Array Value} {sz n:Nat} (hs:zc.size=sz) {i:Nat} (hi:i<n):(((List.range (n*sz)).map fun i=>zc[i % sz]!).drop (i*sz)).take sz=zc.toList:=by
 subst hs
 apply List.ext_getElem?
 intro j
 rw [seg_get]
 have hm:(i+1)*zc.size<=n*zc.size:=Nat.mul_le_mul_right _ hi
 rw [Nat.add_mul] at hm
 by_cases hj:j<zc.size
 ·rw [if_pos hj]
  rw [List.getElem?_map,List.getElem?_range (by omega)]
  have e:(i*zc.size+j) % zc.size=j:=by
   rw [Nat.mul_comm,Nat.mul_add_mod];exact Nat.mod_eq_of_lt hj
  simp only [Option.map_some,e]
  simp [hj,Array.getElem?_eq_getElem]
 ·rw [if_neg hj,List.getElem?_eq_none (by simp;omega)]
theorem sim_makeD {X H} (g:Good X F w β H) {id0:Nat} (hid:β id0=none) {T:TypeId} {a b v:AV} {H':Heap} {hd:Bool} (h:exMakeD P T H id0 a b=some (v,H',hd)) {va vb:Value} (ha:RelV F w β a va) (hb:RelV F w β b vb) :
  ∃ r w',(Instr.makeSlice T va vb).run P w=.ok r w'/\Left X F w β H' id0 v r w':=by
 unfold exMakeD at h
 split at h
 ·rename_i i x0 j y0
  obtain ⟨⟨e,t⟩,hT,h⟩:=zB.1 h
  obtain ⟨z,hz,h⟩:=zB.1 h
  (try simp only at h)
  split at h
  ·rename_i hc
   split at h
   ·cases h
   ·rename_i hc2
    simp only [zS,zP] at h
    obtain ⟨rfl,rfl,_⟩:=h
    rw [ha.int_inv,hb.int_inv]
    generalize toI i x0=x at hc
    generalize toI j y0=y at hc
    obtain ⟨h0,h1,h2⟩:=hc
    have hb0:P.bytesOf e≠0:=fun e=>hc2 (.inl e)
    have hk:deepK t=true:=by
     cases hh:deepK t with
     |true=>rfl
     |false=>exact absurd (.inr hh) hc2
    obtain ⟨hT1,hT2⟩:=elemTy_some hT
    obtain ⟨_,⟨inf,hinf⟩,hsz,_,_⟩:=tyC_some hT2
    obtain ⟨zv,hzv,hzr,hznr⟩:=zeroD_repO (F:=F) (w:=w) hk hz
    obtain ⟨hz1,_⟩:=zero_run (w:=w) hzv
    have hzs:zv.cells.size=t.sz:=by have:=repO_len hzr;simpa using this
    have hbytes:P.bytesOf e=inf.bytes:=by simp [Program.bytesOf,hinf]
    have hy:y<=9223372036854775807:=by
     have:y.toNat*1<=y.toNat*P.bytesOf e:=Nat.mul_le_mul_left _ (by omega)
     unfold maxBytes at h2;omega
    have hwx:IntKind.i64.wrap x=x:=by simp [IntKind.wrap,IntKind.signed,IntKind.bits];omega
    have hwy:IntKind.i64.wrap y=y:=by simp [IntKind.wrap,IntKind.signed,IntKind.bits];omega
    have hcells:∃ rest,((Array.range (y.toNat*t.sz)).map fun i=>zv.cells[i % zv.cells.size]!)=(((List.range (x.toNat*t.sz)).map fun i=>zv.cells[i % t.sz]!)++rest).toArray:=by
     refine ⟨((List.range (y.toNat*t.sz)).map fun i=>zv.cells[i % zv.cells.size]!).drop (x.toNat*t.sz),?_⟩
     apply Array.ext'
     rw [Array.toList_map,Array.toList_range]
     have hm:x.toNat*t.sz<=y.toNat*t.sz:=Nat.mul_le_mul_right _ (by omega)
     have:(List.range (x.toNat*t.sz)).map (fun i=>zv.cells[i % t.sz]!)=((List.range (y.toNat*t.sz)).map fun i=>zv.cells[i % zv.cells.size]!).take (x.toNat*t.sz):=by
      rw [←List.map_take,List.take_range,Nat.min_eq_left hm,hzs]
     rw [this];simp
    obtain ⟨rest,hrest⟩:=hcells
    have norel:∀ k b,¬ SlR ((List.range (x.toNat*t.sz)).map fun i=>zv.cells[i % t.sz]!) k b:=fun k b hr=>by
     have hlt:=hr.lt
     simp only [List.length_map,List.length_range] at hlt
     have hpos:0<t.sz:=by
      rcases Nat.eq_zero_or_pos t.sz with h|h
      ·rw [h] at hlt;omega
      ·exact h
     have hm:=Nat.mod_lt k hpos
     refine hznr (k % t.sz) b ?_
     obtain ⟨n,cap,hr,hcap⟩:=hr
     refine ⟨n,cap,?_,hcap⟩
     rw [List.getElem?_map,List.getElem?_range hlt] at hr
     simp only [Option.map_some,zS] at hr
     rw [←hr]
     have hlt2:k % t.sz<zv.cells.size:=by omega
     simp [hlt2]
    obtain ⟨c,g',ex,rv⟩:=new_deep g hid (u:=t) (xs:=List.replicate x.toNat z) (vs:=(List.range (x.toNat*t.sz)).map fun i=>zv.cells[i % t.sz]!) (cap:=y.toNat) (rest:=rest) hk (by simp) (by simp;omega) (by
     have:=congrArg Array.size hrest
     simp only [Array.size_map,Array.size_range,List.size_toArray] at this
     exact this.symm) (fun i hi=>by
      have hi':i<x.toNat:=by simpa using hi
      rw [List.getElem_replicate,zeros_seg hzs hi'];exact hzr) (fun _=>False) (fun _ h=>h.elim) (fun k b h=>(norel k b h).elim) (fun k k' b h=>(norel k b h).elim) (H0:=H) (fun _ h=>h.elim) (fun _ _ _=>rfl) e
    refine ⟨.slice (some ⟨w.heap.size,0,none⟩) x.toNat y.toNat,_,?_,F,upd β id0 c,g',ex,by simpa using rv,fun j hj=>?_⟩
    ·unfold Instr.makeSlice
     have hti:(typeInfo e).run P w=.ok inf w:=by simp [typeInfo,hinf]
     simp only [Sem.run_bind,und hT1,Result.andThen_ok,asInt,asIntOf,pure,Sem.run,hti,hwx,hwy]
     have hle:(inf.bytes:Int)*y<=140737488355328:=by
      rw [hbytes] at h2
      unfold maxBytes at h2
      have h3:((y.toNat*inf.bytes:Nat):Int)<=((140737488355328:Nat):Int):=Int.ofNat_le.mpr h2
      rw [Int.natCast_mul,Int.toNat_of_nonneg (by omega),Int.mul_comm] at h3
      generalize (inf.bytes:Int)*y=q at h3 ⊢
      omega
     have h48:(2:Int) ^ 48=281474976710656:=rfl
     have a1:decide (y<0)=false:=zF (by omega)
     have a2:decide ((inf.bytes:Int)*y>2 ^ 48)=false:=zF (by rw [h48];omega)
     have a3:decide (x<0)=false:=zF (by omega)
     have a4:decide (x>y)=false:=zF (by omega)
     rw [if_neg (by rw [a1,a2,a3,a4];simp)]
     simp only [askRoom]
     have hroom:¬ (y.toNat*inf.bytes>roomBytes):=by rw [hbytes] at h2;unfold maxBytes at h2;unfold roomBytes;omega
     rw [if_neg hroom]
     simp only [pure,Sem.run_bind,Sem.run,Result.andThen_ok,sizeOf_run hinf,hsz]
     by_cases hn:y.toNat*t.sz=0
     ·rw [if_pos hn]
      simp only [pure,Sem.run,Result.andThen_ok,Sem.run_bind,newRow_run]
      rw [hn] at hrest ⊢
      have e0:((Array.range 0).map fun i=>(#[]:Array Value)[i % (#[]:Array Value).size]!)=((Array.range 0).map fun i=>zv.cells[i % zv.cells.size]!):=by simp
      rw [e0,hrest]
     ·rw [if_neg hn]
      simp only [pure,Sem.run,Result.andThen_ok,Sem.run_bind,hz1,newRow_run]
      rw [hrest]
    ·by_cases e':j=id0
     ·exact .inr e'
     ·left;rw [upd_ne e'] at hj;exact hj
  ·cases h
 ·cases h
theorem isZero_val {lo:Option AV} {lov:Option Value} (h:isZero lo=true) (hlo:(∀ x,lo=some x->∃ y,lov=some y/\RelV F w β x y)/\(lo=none->lov=none)):lov=none\/∃ k,lov=some (.int k 0):=by
 cases lo with
 |none=>exact .inl (hlo.2 rfl)
 |some a=>
  obtain ⟨y,hy,hr⟩:=hlo.1 a rfl
  unfold isZero at h
  split at h
  ·rename_i e;cases e
  ·rename_i k x e
   cases e
   have hx:=of_decide_eq_true h
   right
   exact ⟨k,by rw [hy,hr.int_inv,hx]⟩
  ·cases h
theorem isZero1_val {lo:Option AV} {lov:Option Value} (h:isZero1 lo=true) (hlo:(∀ x,lo=some x->∃ y,lov=some y/\RelV F w β x y)/\(lo=none->lov=none)):∃ k,lov=some (.int k 0):=by
 cases lo with
 |none=>cases h
 |some a=>
  obtain ⟨y,hy,hr⟩:=hlo.1 a rfl
  unfold isZero1 at h
  split at h
  ·rename_i k x e
   cases e
   have hx:=of_decide_eq_true h
   exact ⟨k,by rw [hy,hr.int_inv,hx]⟩
  ·cases h
theorem sim_empty {X H} (g:Good X F w β H) {id0:Nat} (hid:β id0=none) {T:TypeId} {a v:AV} {lo hi mx:Option AV} {H':Heap} {hd:Bool} (h:exEmpty P T H id0 a lo hi mx=some (v,H',hd)) {va:Value} {lov hiv mxv:Option Value} (ha:RelV F w β a va)
  (hlo:(∀ x,lo=some x->∃ y,lov=some y/\RelV F w β x y)/\(lo=none->lov=none)) (hhi:(∀ x,hi=some x->∃ y,hiv=some y/\RelV F w β x y)/\(hi=none->hiv=none)) (hmx:(∀ x,mx=some x->∃ y,mxv=some y/\RelV F w β x y)/\(mx=none->mxv=none)) :
  ∃ r w',(Instr.sliceAt T va lov hiv mxv).run P w=.ok r w'/\Left X F w β H' id0 v r w':=by
 have main:∀ {e:TypeId} {t:Ty} {A:Option Addr} {n c:Nat},P.underlying T=some (.slice e)->tyC P e=some t->va=.slice A n c->isZero lo=true->isZero1 hi=true->isZero1 mx=true->some (AV.full id0,H.set id0 (.row t [] false),false)=some (v,H',hd) ->
   ∃ r w',(Instr.sliceAt T va lov hiv mxv).run P w=.ok r w'/\Left X F w β H' id0 v r w':=by
  intro e t A n c hT ht hva h1 h2 h3 h
  simp only [zS,zP] at h
  obtain ⟨rfl,rfl,_⟩:=h
  obtain ⟨_,⟨inf,hi2⟩,_,_,_⟩:=tyC_some ht
  obtain ⟨k2,e2⟩:=isZero1_val h2 hhi
  obtain ⟨k3,e3⟩:=isZero1_val h3 hmx
  obtain ⟨g',ex,rv⟩:=g.emptyB hid t A (.inl rfl)
  refine ⟨.slice A 0 0,w,?_,F,_,g',ex,rv,fun j hj=>?_⟩
  ·subst hva
   unfold Instr.sliceAt
   simp only [Sem.run_bind,und hT,Result.andThen_ok]
   unfold Instr.slice
   simp only [Sem.run_bind,und hT,Result.andThen_ok]
   have hsb:(Instr.sliceBounds true n c lov hiv mxv).run P w=.ok (0,0,0) w:=by
    unfold Instr.sliceBounds
    rw [e2,e3]
    have q3:(Instr.sliceBound (.int k3 0) c .slice3Acap).run P w=.ok 0 w:=by have:=sliceBound_run (P:=P) (w:=w) (k:=k3) (i:=0) (y:=c) .slice3Acap (by omega) (by omega);simpa using this
    have q2:(Instr.sliceBound (.int k2 0) 0 .slice3B).run P w=.ok 0 w:=by have:=sliceBound_run (P:=P) (w:=w) (k:=k2) (i:=0) (y:=0) .slice3B (by omega) (by omega);simpa using this
    rcases isZero_val h1 hlo with e1|⟨k1,e1⟩
    ·rw [e1]
     simp only [if_true,Sem.run_bind,q3,q2,Result.andThen_ok,pure,Sem.run]
    ·rw [e1]
     have q1:(Instr.sliceBound (.int k1 0) 0 .slice3C).run P w=.ok 0 w:=by have:=sliceBound_run (P:=P) (w:=w) (k:=k1) (i:=0) (y:=0) .slice3C (by omega) (by omega);simpa using this
     simp only [if_true,Option.isSome,Sem.run_bind,q3,q2,q1,Result.andThen_ok,pure,Sem.run]
   rw [hsb]
   simp only [Result.andThen_ok,Sem.run_bind,sizeOf_run hi2,pure,Sem.run,if_true]
  ·by_cases e':j=id0
   ·exact .inr e'
   ·left;rw [upd_ne e'] at hj;exact hj
 unfold exEmpty at h
 split at h
 ·rename_i e hT
  split at h
  ·rename_i t xs
   split at h
   ·rename_i hc
    simp only [Bool.and_eq_true] at hc
    rcases ha.dat_inv with ⟨_,hr⟩|⟨hm,_⟩
    ·simp only [rep] at hr
     obtain ⟨A,c,hr,_⟩:=hr
     simp only [List.cons.injEq,and_true] at hr
     exact main hT (elemIs_some hc.1.1.1) hr hc.1.1.2 hc.1.2 hc.2 h
    ·cases hm
   ·cases h
  ·split at h
   ·rename_i t ht
    split at h
    ·rename_i hc
     simp only [Bool.and_eq_true] at hc
     exact main hT ht ha.nilS_inv hc.1.1 hc.1.2 hc.2 h
    ·cases h
   ·cases h
  ·split at h
   ·split at h
    ·rename_i hc
     simp only [Bool.and_eq_true] at hc
     obtain ⟨c,t',len,hv,_⟩:=ha.full_inv
     exact main hT (elemIs_some hc.1.1.1) hv hc.1.1.2 hc.1.2 hc.2 h
    ·cases h
   ·cases h
  ·split at h
   ·split at h
    ·rename_i hc
     simp only [Bool.and_eq_true] at hc
     obtain ⟨c,n,t',A,cap,hv,_⟩:=ha.sub_inv
     exact main hT (elemIs_some hc.1.1.1) hv hc.1.1.2 hc.1.2 hc.2 h
    ·cases h
   ·cases h
  ·cases h
 ·cases h
end
end
section
section
variable {P:Program} {F:Nat->Prop} {w:World} {β:Nat->Option Conc}
theorem cells_oneM {v:Value} (h:v.oneCell'=true):v.cells.toList=[v]:=by
 cases v<;>simp [Value.oneCell'] at h<;>rfl
theorem relV_cellsM {a:AV} {v:Value} (h:RelV F w β a v) (hv:isVal a=true):(isMany a=false->v.cells.toList=[v])/\(isMany a=true->v=.agg v.cells.toList.toArray):=by
 cases h with
 |one a v h1 h2=>exact ⟨fun _=>cells_oneM (h2.oneC v (by simp)),fun h=>by rw [h1] at h;cases h⟩
 |many a cs h1 h2=>exact ⟨fun h=>(by rw [h1] at h;cases h),fun _=>by simp [Value.cells]⟩
 |tup xs vs h=>cases hv
 |any v=>cases hv
theorem pack_relM {X H} (g:Good X F w β H) {u:Ty} {a:AV} {x:u.D} (h:pack H false u a=some x) (hm:(isMany a == isMany (.dat u x))=true) {v:Value} (hr:RelV F w β a v):RelV F w (fun _=>none) (.dat u x) v:=by
 have hv:isVal a=true:=by
  unfold pack at h
  split at h
  ·assumption
  ·cases h
 obtain ⟨c1,c2⟩:=relV_cellsM hr hv
 have hm:isMany a=isMany (.dat u x):=by simpa using hm
 have:=pack_rep g h hr (fun e=>by cases e)
 exact RelV.ofDat this (fun h=>c2 (by rw [hm];exact h)) (fun h=>c1 (by rw [hm];exact h))
theorem datβ {t:Ty} {x:t.D} {v:Value} {β':Nat->Option Conc} (h:RelV F w β (.dat t x) v):RelV F w β' (.dat t x) v:=by
 cases h with
 |one _ _ h1 h2=>
  cases h2 with
  |dat _ _ _ h3=>exact .one _ _ h1 (.dat _ _ _ h3)
 |many _ cs h1 h2=>
  cases h2 with
  |dat _ _ _ h3=>exact .many _ _ h1 (.dat _ _ _ h3)
theorem mapTys_some {T:TypeId} {k v:Ty} {E:TypeId} (h:mapTys P T=some (k,v,E)):∃ K,P.underlying T=some (.map K E)/\tyC P K=some k/\tyC P E=some v/\keyK k=true:=by
 unfold mapTys at h
 split at h
 ·rename_i K E' hT
  obtain ⟨k',h1,h⟩:=zB.1 h
  obtain ⟨v',h2,h⟩:=zB.1 h
  split at h
  ·rename_i hk
   simp only [zS,zP] at h
   obtain ⟨rfl,rfl,rfl⟩:=h
   exact ⟨K,hT,h1,h2,hk⟩
  ·cases h
 ·cases h
theorem mapOfA_some {k v:Ty} {H:Heap} {a:AV} {id:Nat} {es:List (k.D×v.D)} (h:mapOfA k v H a=some (id,es)):a=.mref id/\H id=some (.mapB k v es):=by
 unfold mapOfA at h
 split at h
 ·rename_i j
  split at h
  ·rename_i k' v' es' hH
   obtain ⟨q,h1,h2⟩:=zM.1 h
   simp only [zP] at h2
   obtain ⟨rfl,rfl⟩:=h2
   obtain ⟨e,h3⟩:=castL_some h1
   cases e
   subst h3
   exact ⟨rfl,hH⟩
  ·cases h
 ·cases h
theorem keyOfA_some {k:Ty} {a:AV} {x:k.D} (h:keyOfA k a=some x):a=.dat k x:=by
 unfold keyOfA at h
 split at h
 ·obtain ⟨e,h1⟩:=cast'_some h
  cases e;subst h1;rfl
 ·cases h
theorem fieldsTy_key {f:TypeId->Option Ty}:∀ {l:List Field} {t:Ty},fieldsTy f l=some t->keyK t=false
 | [],t,h=>by simp only [fieldsTy] at h;cases h;rfl
 |a::l,t,h=>by
  simp only [fieldsTy] at h
  obtain ⟨x,_,h⟩:=zB.1 h
  obtain ⟨y,_,h⟩:=zB.1 h
  cases h;rfl
theorem key_ty {K:TypeId} {k:Ty} (h:tyC P K=some k) (hk:keyK k=true):(∃ i,k=.int i/\P.underlying K=some (.int i))\/(k=.str/\P.underlying K=some .string):=by
 have h1:=(tyC_some h).1
 unfold TD tyOf at h1
 split at h1
 ·cases h1;exact .inl ⟨_,rfl,by assumption⟩
 ·cases h1;cases hk
 ·cases h1;exact .inr ⟨rfl,by assumption⟩
 ·obtain ⟨x,_,h2⟩:=zM.1 h1
  subst h2;cases hk
 ·obtain ⟨x,_,h2⟩:=zM.1 h1
  subst h2;cases hk
 ·rw [fieldsTy_key h1] at hk;cases hk
 ·cases h1
theorem bytes_beq (xs ys:List UInt8):(ByteArray.mk xs.toArray == ByteArray.mk ys.toArray)=(xs == ys):=by
 rw [Bool.eq_iff_iff,Go.MapKept.bytes_beq,beq_iff_eq]
 constructor
 ·intro h
  have:=congrArg (fun b:ByteArray=>b.data.toList) h
  simpa using this
 ·intro h;rw [h]
theorem same_key {K:TypeId} {k:Ty} (h:tyC P K=some k) (hk:keyK k=true) {x y:k.D} {u v:Value} (hx:RelV F w (fun _=>none) (.dat k x) u) (hy:RelV F w (fun _=>none) (.dat k y) v):∃ d,P.underlying K=some d/\Instr.sameNow d u v=some (keyEq k x y):=by
 rcases key_ty h hk with ⟨i,rfl,hu⟩|⟨rfl,hu⟩
 ·refine ⟨_,hu,?_⟩
  rw [hx.int_inv,hy.int_inv]
  simp only [Instr.sameNow,if_true,keyEq]
 ·refine ⟨_,hu,?_⟩
  rw [hx.str_inv,hy.str_inv]
  simp only [Instr.sameNow,keyEq,bytes_beq]
theorem find_now {K:TypeId} {k v:Ty} (h:tyC P K=some k) (hk:keyK k=true) {d:TypeDesc} (hd:P.underlying K=some d) {x:k.D} {u:Value} (hx:RelV F w (fun _=>none) (.dat k x) u) :
  ∀ (es:List (k.D×v.D)) (l:List MapEntry) (i:Nat),es.length=l.length->(∀ j (h1:j<es.length) (h2:j<l.length),RelV F w (fun _=>none) (.dat k es[j].1) l[j].key) ->
   ((mapFind x es i=none/\Instr.findNow d u l i=some none)\/∃ n z e,mapFind x es i=some (i+n,z)/\es[n]?=some (e,z)/\keyEq k x e=true/\∃ (hn:n<l.length),Instr.findNow d u l i=some (some (i+n,l[n].val)))
 | [],[],i,_,_=>.inl ⟨rfl,rfl⟩
 | [],_::_,_,hl,_=>by cases hl
 |_::_,[],_,hl,_=>by cases hl
 |e::es,m::l,i,hl,hr=>by
  obtain ⟨d',hd',hs⟩:=same_key h hk hx (hr 0 (by simp) (by simp))
  rw [hd] at hd';cases hd'
  simp only [List.getElem_cons_zero] at hs
  simp only [mapFind,Instr.findNow]
  rw [hs]
  cases hb:keyEq k x e.1 with
  |true=>
   right
   exact ⟨0,e.2,e.1,rfl,rfl,hb,by simp,by simp⟩
  |false=>
   simp only [zc]
   rcases find_now h hk hd hx es l (i+1) (by simpa using hl) (fun j h1 h2=>by
    have:=hr (j+1) (by simp;omega) (by simp;omega)
    simpa using this) with ⟨a,b⟩|⟨n,z,e',a,b,c,hn,f⟩
   ·exact .inl ⟨a,b⟩
   ·right
    refine ⟨n+1,z,e',by rw [a];congr 2;omega,by simpa using b,c,by simp;omega,?_⟩
    rw [f]
    simp
    omega
theorem key_is {K:TypeId} {k:Ty} (h:tyC P K=some k) (hk:keyK k=true) {x:k.D} {u:Value} (hx:RelV F w (fun _=>none) (.dat k x) u):∃ d,P.underlying K=some d/\MapKept.IsKey d u:=by
 rcases key_ty h hk with ⟨i,rfl,hu⟩|⟨rfl,hu⟩
 ·exact ⟨_,hu,by rw [hx.int_inv];simp [MapKept.IsKey]⟩
 ·exact ⟨_,hu,by rw [hx.str_inv];simp [MapKept.IsKey]⟩
theorem zeroM_rel {T:TypeId} {u:Ty} {x:u.D} (h:zeroM P T u=some x):∃ z,zeroOf P T=some z/\RelV F w β (.dat u x) z:=by
 unfold zeroM at h
 obtain ⟨y,h1,h2⟩:=zB.1 h
 split at h2
 ·rename_i z hz
  split at h2
  ·rename_i hs
   cases h2
   obtain ⟨z',hz',hr⟩:=zeroD_rep (F:=F) (w:=w) h1
   rw [hz] at hz';cases hz'
   refine ⟨z,hz,RelV.ofDat hr (fun hm=>?_) (fun hm=>?_)⟩
   ·rw [hm] at hs
    cases z<;>simp [okShape] at hs
    simp [Value.cells]
   ·rw [hm] at hs
    exact cells_oneM hs
  ·cases h2
 ·cases h2
theorem sim_makeMap {X H} (g:Good X F w β H) {id0:Nat} (hid:β id0=none) {T:TypeId} {r:Option AV} {a:AV} {H':Heap} {hd:Bool} (h:exMakeMap P T H id0 r=some (a,H',hd)) {rv:Option Value} (hr:(∀ x,r=some x->∃ y,rv=some y/\RelV F w β x y)/\(r=none->rv=none)) :
  ∃ v w',(Instr.makeMap T rv).run P w=.ok v w'/\Made X F w β H' id0 a v w':=by
 unfold exMakeMap at h
 obtain ⟨⟨k,v,E⟩,hT,h⟩:=zB.1 h
 obtain ⟨K,hu,_,_,_⟩:=mapTys_some hT
 have hrun:∃ v0,(Instr.makeMap T rv).run P w=.ok (.map (some w.heap.size)) { w with heap:=w.heap.push (.map #[] 0) }/\a=.mref id0/\H'=H.set id0 (.mapB k v [])/\v0=():=by
  refine ⟨(),?_⟩
  simp only at h
  split at h
  ·cases h
   have:=hr.2 rfl
   subst this
   refine ⟨?_,rfl,rfl,rfl⟩
   simp [Instr.makeMap,Sem.run,newObj,pure]
  ·rename_i q z
   cases h
   obtain ⟨y,hy,hv⟩:=hr.1 _ rfl
   subst hy
   rw [hv.int_inv]
   refine ⟨?_,rfl,rfl,rfl⟩
   simp only [Instr.makeMap,Sem.run_bind,und hu,Result.andThen_ok,asInt,asIntOf,pure,Sem.run,newObj]
  ·cases h
 obtain ⟨_,h1,rfl,rfl,_⟩:=hrun
 have hB:BRel F { w with heap:=w.heap.push (.map #[] 0) } (upd β id0 ⟨some w.heap.size,0,.mapS k v,none⟩) ⟨some w.heap.size,0,.mapS k v,none⟩ (.mapB k v []):=by
  refine ⟨rfl,w.heap.size,rfl,[],0,?_,rfl,rfl,fun i h1 _=>by cases h1⟩
  unfold mapAt
  rw [heap_push_eq]
 obtain ⟨g',ex⟩:=g.new hid (c:=⟨some w.heap.size,0,.mapS k v,none⟩) rfl rfl (fun b hb=>by cases hb) hB
 exact ⟨_,_,h1,F,_,g',ex,.one _ _ rfl (.mref _ _ k v _ upd_self rfl rfl)⟩
theorem map_obj {X H} (g:Good X F w β H) {id:Nat} {k v:Ty} {es:List (k.D×v.D)} (hH:H id=some (.mapB k v es)) {u:Value} (ha:RelV F w β (.mref id) u) :
  ∃ c b a,u=.map (some b)/\β id=some c/\c.b=some b/\c.sh=.mapS k v/\w.heap[b]?=some (.map a a.size)/\EntOK F w k v es a.toList:=by
 cases ha with
 |one _ _ _ h1=>
  cases h1 with
  |mref _ c k' v' b q1 q2 q3=>
   obtain ⟨blk,r1,r2⟩:=g.hr id c q1
   rw [hH] at r1;cases r1
   obtain ⟨s1,b',s2,l,ck,s3,s4,s5⟩:=r2
   rw [q3] at s2;cases s2
   unfold mapAt at s3
   split at s3
   ·rename_i a c' hh
    simp only [zS,zP] at s3
    obtain ⟨rfl,rfl⟩:=s3
    refine ⟨c,b,a,rfl,q1,q3,s1,?_,s5⟩
    rw [hh,s4];simp
   ·cases s3
 |many _ _ hm _=>cases hm
theorem sim_lookup {X H} (g:Good X F w β H) {T:TypeId} {a x:AV} {ok:Bool} {r:AV} (h:exLookup P T H a x ok=some r) {u y:Value} (ha:RelV F w β a u) (hx:RelV F w β x y) :
  ∃ z,(Instr.lookup T u y ok).run P w=.ok z w/\RelV F w β r z:=by
 unfold exLookup at h
 obtain ⟨⟨k,v,E⟩,hT,p1⟩:=zB.1 h
 obtain ⟨K,hu,hK,hE,hk⟩:=mapTys_some hT
 obtain ⟨⟨id,es⟩,hM,p2⟩:=zB.1 p1
 obtain ⟨ea,hH⟩:=mapOfA_some hM
 obtain ⟨kx,hkx,p3⟩:=zB.1 p2
 have ex:=keyOfA_some hkx
 obtain ⟨z0,hz,hres⟩:=zM.1 p3
 rw [ea] at ha
 rw [ex] at hx
 obtain ⟨c,b,arr,rfl,hc,hcb,hsh,hheap,hent⟩:=map_obj g hH ha
 have hx0:RelV F w (fun _=>none) (.dat k kx) y:=datβ hx
 obtain ⟨d,hd,hkey⟩:=key_is hK hk hx0
 obtain ⟨zc,hzo,hzv⟩:=zeroM_rel (F:=F) (w:=w) (β:=β) hz
 have hzrun:=(zero_run (P:=P) (w:=w) hzo).1
 have hval:∃ (fo:Option (Nat×Value)) (vv:Value) (ok':Bool),(Instr.findKey K y arr.toList).run P w=.ok fo w/\((fo=none/\vv=zc/\ok'=false)\/∃ i,fo=some (i,vv)/\ok'=true)/\RelV F w β (.dat v ((mapFind kx es 0).elim z0 fun q=>q.2)) vv/\ok'=(mapFind kx es 0).isSome:=by
  rcases find_now hK hk hd hx0 es arr.toList 0 hent.1 (fun j h1 h2=>(hent.2 j h1 h2).1) with ⟨a1,a2⟩|⟨n,z,e,a1,a2,a3,hn,a4⟩
  ·exact ⟨none,zc,false,MapKept.run_findKey hd a2,.inl ⟨rfl,rfl,rfl⟩,by rw [a1];exact hzv,by rw [a1];rfl⟩
  ·have hn':n<es.length:=(List.getElem?_eq_some_iff.1 a2).1
   have hez:es[n].2=z:=by
    have:=(List.getElem?_eq_some_iff.1 a2).2
    rw [this]
   refine ⟨_,arr.toList[n].val,true,MapKept.run_findKey hd a4,.inr ⟨_,rfl,rfl⟩,?_,by rw [a1];rfl⟩
   rw [a1]
   show RelV F w β (.dat v z) _
   have:=(hent.2 n hn' hn).2.1
   rw [hez] at this
   exact datβ this
 obtain ⟨fo,vv,ok',h1,hfo,h2,h3⟩:=hval
 have hrun:(Instr.lookup T (.map (some b)) y ok).run P w=.ok (if ok then .tuple #[vv,.bool ok'] else vv) w:=by
  unfold Instr.lookup
  simp only [Sem.run_bind,und hu,Result.andThen_ok,MapKept.run_getObj_map hheap,pure,Sem.run]
  rw [show (10000:Nat)=9999+1 from rfl,MapKept.run_checkKey hd hkey]
  simp only [Result.andThen_ok]
  rw [h1]
  simp only [Result.andThen_ok]
  rcases hfo with ⟨rfl,rfl,rfl⟩|⟨i,rfl,rfl⟩
  ·simp only [Sem.run_bind,hzrun,Result.andThen_ok,Sem.run]
  ·simp only [Sem.run_bind,Result.andThen_ok,Sem.run]
 refine ⟨_,hrun,?_⟩
 subst hres
 cases ok with
 |true=>
  refine .tup _ _ (.cons _ _ _ _ h2 (.cons _ _ _ _ ?_ .nil))
  rw [h3];exact RelV.bool _
 |false=>exact h2
theorem getElem_push_lt {a:Array MapEntry} {m:MapEntry} {i:Nat} (h:i<a.toList.length) (h2:i<(a.push m).toList.length):(a.push m).toList[i]=a.toList[i]:=by
 simp only [Array.toList_push]
 rw [List.getElem_append_left h]
theorem sim_mapUpdate {X H} (g:Good X F w β H) {T:TypeId} {a x d0:AV} {H':Heap} (h:exMapUpdate P T H a x d0=some H') {u y z:Value} (ha:RelV F w β a u) (hx:RelV F w β x y) (hd0:RelV F w β d0 z) :
  ∃ w',(Instr.mapUpdate T u y z).run P w=.ok () w'/\Good X F w' β H'/\Ext F w β F w' β:=by
 unfold exMapUpdate at h
 obtain ⟨⟨k,v,E⟩,hT,p1⟩:=zB.1 h
 obtain ⟨K,hu,hK,hE,hk⟩:=mapTys_some hT
 obtain ⟨⟨id,es⟩,hM,p2⟩:=zB.1 p1
 obtain ⟨ea,hH⟩:=mapOfA_some hM
 obtain ⟨kx,hkx,p3⟩:=zB.1 p2
 have ex:=keyOfA_some hkx
 obtain ⟨zv,hz,p4⟩:=zB.1 p3
 split at p4
 rotate_left
 ·cases p4
 rename_i hmany
 simp only [zS] at p4
 rw [ea] at ha
 rw [ex] at hx
 have hzr:=pack_relM g hz hmany hd0
 obtain ⟨c,b,arr,rfl,hc,hcb,hsh,hheap,hent⟩:=map_obj g hH ha
 have hx0:RelV F w (fun _=>none) (.dat k kx) y:=datβ hx
 obtain ⟨d,hd,hkey⟩:=key_is hK hk hx0
 have hnew:∃ arr':Array MapEntry,(Instr.mapUpdate T (.map (some b)) y z).run P w=.ok () { w with heap:=w.heap.setIfInBounds b (.map arr' arr'.size) }/\EntOK F w k v (mapPut kx zv es) arr'.toList:=by
  rcases find_now hK hk hd hx0 es arr.toList 0 hent.1 (fun j h1 h2=>(hent.2 j h1 h2).1) with ⟨a1,a2⟩|⟨n,z1,e,a1,a2,a3,hn,a4⟩
  ·refine ⟨arr.push { key:=y,val:=z,born:=arr.size },?_,?_⟩
   ·unfold Instr.mapUpdate
    simp only [Sem.run_bind,und hu,Result.andThen_ok,MapKept.run_getObj_map hheap]
    rw [show (10000:Nat)=9999+1 from rfl,MapKept.run_checkKey hd hkey]
    simp only [Result.andThen_ok,MapKept.run_findKey hd a2,MapKept.run_setObj_map _ hheap,Array.size_push]
   ·unfold mapPut
    rw [a1]
    have hl:=hent.1
    refine ⟨by simp [hl],fun i h1 h2=>?_⟩
    by_cases hi:i<es.length
    ·have hi2:i<arr.toList.length:=by omega
     rw [getElem_push_lt hi2 h2]
     have e1:(es++[(kx,zv)])[i]=es[i]:=List.getElem_append_left hi
     rw [e1]
     exact hent.2 i hi hi2
    ·have hie:i=es.length:=by simp at h1;omega
     subst hie
     have e1:(es++[(kx,zv)])[es.length]=(kx,zv):=by simp
     have e2:(arr.push { key:=y,val:=z,born:=arr.size }).toList[es.length]={ key:=y,val:=z,born:=arr.size }:=by
      simp only [Array.toList_push]
      rw [List.getElem_append_right (by omega)]
      simp
     rw [e1,e2]
     exact ⟨hx0,hzr,by simp at hl;exact hl.symm⟩
  ·have hn':n<es.length:=(List.getElem?_eq_some_iff.1 a2).1
   have hen:es[n]=(e,z1):=(List.getElem?_eq_some_iff.1 a2).2
   have hkn:=(hent.2 n hn' hn).1
   rw [hen] at hkn
   have hsame:arr.toList[n].key=y:=by
    obtain ⟨d',hd',hs⟩:=same_key hK hk hx0 hkn
    rw [hd] at hd';cases hd'
    rw [a3] at hs
    rcases key_ty hK hk with ⟨i,rfl,hu'⟩|⟨rfl,hu'⟩
    ·rw [hx0.int_inv,hkn.int_inv]
     simp only [keyEq,beq_iff_eq] at a3
     rw [a3]
    ·rw [hx0.str_inv,hkn.str_inv]
     simp only [keyEq,beq_iff_eq] at a3
     rw [a3]
   have hget:arr[n]?=some arr.toList[n]:=by
    rw [←Array.getElem?_toList];exact List.getElem?_eq_getElem hn
   refine ⟨arr.modify n fun e=>{ e with key:=y,val:=z },?_,?_⟩
   ·unfold Instr.mapUpdate
    simp only [Sem.run_bind,und hu,Result.andThen_ok,MapKept.run_getObj_map hheap]
    rw [show (10000:Nat)=9999+1 from rfl,MapKept.run_checkKey hd hkey]
    simp only [Result.andThen_ok,MapKept.run_findKey hd a4,Sem.run_bind,Nat.zero_add,hget,Option.map_some,Option.getD_some,hsame,MapKept.run_keyThatStays hkey,MapKept.run_setObj_map _ hheap,Array.size_modify]
   ·unfold mapPut
    rw [a1]
    simp only [Nat.zero_add]
    refine ⟨by simp [hent.1],fun i h1 h2=>?_⟩
    have h1':i<es.length:=by simpa using h1
    have h2':i<arr.toList.length:=by simpa using h2
    have em:(arr.modify n fun e=>{ e with key:=y,val:=z }).toList[i]=if n=i then { arr.toList[i] with key:=y,val:=z } else arr.toList[i]:=by
     simp only [Array.getElem_toList]
     rw [Array.getElem_modify]
    rw [em,List.getElem_set]
    by_cases hi:n=i
    ·subst hi
     rw [if_pos rfl,if_pos rfl]
     exact ⟨hx0,hzr,(hent.2 n hn' hn).2.2⟩
    ·rw [if_neg hi,if_neg hi]
     exact hent.2 i h1' h2'
 obtain ⟨arr',hrun,hent'⟩:=hnew
 have hs:=MapKept.heap_set (w:=w) (r:=b) (o':=.map arr' arr'.size) hheap
 have hw:∀ b',b'≠b->(World.heap { w with heap:=w.heap.setIfInBounds b (.map arr' arr'.size) })[b']?=w.heap[b']?:=fun b' hb'=>hs.2 b' hb'
 have exx:Ext F w (fun _=>none) F { w with heap:=w.heap.setIfInBounds b (.map arr' arr'.size) } (fun _=>none):=by
  have o1:=(g.own' id c b hc ⟨by rw [hH];rfl,.inl hcb⟩).1
  exact ⟨fun b' h=>⟨h,cellsAt_of_heap (hw b' fun e=>o1 (e▸h))⟩,fun _ _ h=>by cases h⟩
 have hB:BRel F { w with heap:=w.heap.setIfInBounds b (.map arr' arr'.size) } β c (.mapB k v (mapPut kx zv es)):=by
  refine ⟨hsh,b,hcb,arr'.toList,arr'.size,?_,by simp,hent'.1,fun i h1 h2=>?_⟩
  ·unfold mapAt
   rw [hs.1]
  ·obtain ⟨q1,q2,q3⟩:=hent'.2 i h1 h2
   exact ⟨q1.mono exx,q2.mono exx,q3⟩
 obtain ⟨g',ex'⟩:=g.write hc (by rw [hH];rfl) hcb hw (by simp) ⟨rfl,rfl⟩ (blk:=.mapB k v (mapPut kx zv es)) hB (fun _=>rfl) (fun b' hb'=>by cases hb')
 rw [←p4]
 exact ⟨_,hrun,g',ex'⟩
end
end
section
def RunEnters (P:Program) (run:Run):Prop:=
 ∀ f args pin h r,run f args pin h=some r->∃ fn,P.funcs[f]?=some fn/\fn.body.isNone=false/\(fn.name == "runtime.NumGoroutine")=false
theorem enter_run {P:Program} {f:FuncId} {fn:Func} {w:World} (hf:P.funcs[f]?=some fn) (hb:fn.body.isNone=false) (hn:(fn.name == "runtime.NumGoroutine")=false) (args:Array Value) :
  (callFunc f args).run P w=.ok (.enter f args) w:=by
 have hn':¬ fn.name="runtime.NumGoroutine":=by simpa using hn
 have hb':¬ fn.body=none:=by
  intro e;rw [e] at hb;simp at hb
 simp [callFunc,go_sem,hf,hn',hb']
theorem exCall0_run {cx:Cx} {f:FuncId} {args:List AV} {H:Heap} {id0:Nat} {r} (h:exCall0 cx f args H id0=some r) :
  ∃ as pin h' r',cx.run f as pin h'=some r':=by
 unfold exCall0 at h
 cases has:exportAll H (cx.own f) args with
 |none=>rw [has] at h;cases h
 |some as=>
 rw [has] at h
 simp only [zb] at h
 split at h
 ·cases hr:cx.run f (renL (fun id=>(idxOf id (reach H 8 (addNew [] (idsL as))) 0).getD 0) as) (reach H 8 (addNew [] (idsL as))).length (subH H (reach H 8 (addNew [] (idsL as))) fun id=>(idxOf id (reach H 8 (addNew [] (idsL as))) 0).getD 0) with
  |none=>rw [hr] at h;cases h
  |some q=>exact ⟨_,_,_,_,hr⟩
 ·cases h
theorem exCall_run {cx:Cx} {f:FuncId} {args:List AV} {H:Heap} {id0:Nat} {r} (h:exCall cx f args H id0=some r) :
  ∃ as pin h' r',cx.run f as pin h'=some r':=by
 unfold exCall at h
 split at h
 ·exact exCall0_run (by assumption)
 ·simp only at h
  split at h
  ·obtain ⟨q,h1,_⟩:=zM.1 h
   exact exCall0_run h1
  ·cases h
theorem sim_callCK {cx:Cx} {K:FuncId->Array Value->World->(Ending->World->Prop)->Prop} (hK:∀ {f v w R R'},K f v w R->(∀ e w',R e w'->R' e w')->K f v w R') (hrun:RunSoundK K cx.run) {X:Cst} {F:Nat->Prop} {w:World} {β:Nat->Option Conc} {H:Heap} (g:Good X F w β H) {id0:Nat} (fresh:∀ j,id0<=j->j<id0+W->β j=none) {f:FuncId} {args:List AV} {x:AV} {H':Heap} {hd:Bool}
  (h:exCall cx f args H id0=some (x,H',hd)) {vals:List Value} (hv:RelVs F w β args vals) :
  K f vals.toArray w fun e w'=>∃ v,e=.returned v/\LeftW X F w β H' id0 x v w':=by
 unfold exCall at h
 split at h
 ·rename_i r hr
  cases h
  exact sim_callK (K:=K) hK hrun g fresh hr hv
 ·simp only at h
  split at h
  ·obtain ⟨⟨v',h',fl⟩,h1,h2⟩:=zM.1 h
   simp only [zP] at h2
   obtain ⟨rfl,rfl,_⟩:=h2
   exact sim_callK (K:=K) hK hrun (g.closeIds _) fresh h1 hv
  ·cases h
section
variable {cx:Cx} {X:Cst} {F:Nat->Prop} {w:World} {β:Nat->Option Conc} {H:Heap}
def OpFine (cx:Cx) (X:Cst) (F:Nat->Prop) (w:World) (β:Nat->Option Conc) (H':Heap) (id0:Nat) (v:AV) (o:Oper) (σ:Operand->Value):Prop:=
 ∀ (a:Act) (next:Act->World->Prop) (Q:Exit->Act->World->Prop),(∀ r w',LeftW X F w β H' id0 v r w'->next (a.put o.dst r) w')->o.upon cx.P a next Q ((execOp σ o).run cx.P w)
theorem fine_val {H' id0 v} {o:Oper} {σ:Operand->Value} {s:Sem Value} (he:execOp σ o=(do pure (Next.value (←s)):Sem Next)) (h:∃ r w',s.run cx.P w=.ok r w'/\LeftW X F w β H' id0 v r w'):OpFine cx X F w β H' id0 v o σ:=by
 intro a next Q hn
 obtain ⟨r,w',h1,h2⟩:=h
 rw [he,run_v h1]
 exact hn r w' h2
theorem fine_soft {id0 v} {o:Oper} {σ:Operand->Value} (g:Good X F w β H) {s:Sem Value} (he:execOp σ o=(do pure (Next.value (←s)):Sem Next)) (h:∃ r,s.run cx.P w=.ok r w/\RelV F w β v r):OpFine cx X F w β H id0 v o σ:=
 fine_val he (let ⟨r,h1,h2⟩:=h;⟨r,w,h1,.same g h2⟩)
theorem fine_pure {id0 v} {o:Oper} {σ:Operand->Value} {r:Value} (g:Good X F w β H) (he:execOp σ o=pure (Next.value r)) (h:RelV F w β v r):OpFine cx X F w β H id0 v o σ:=by
 intro a next Q hn
 rw [he]
 exact hn r w (.same g h)
theorem soft_some {h:Heap} {a:Option AV} {v H' hd} (e:soft h a=some (v,H',hd)):a=some v/\H'=h:=by
 unfold soft at e
 cases a with
 |none=>cases e
 |some x=>cases e;exact ⟨rfl,rfl⟩
theorem optRel {ρ:Operand->AV} {σ:Operand->Value} (hρ:∀ x,RelV F w β (ρ x) (σ x)) (o:Option Operand) :
  (∀ x,o.map ρ=some x->∃ y,o.map σ=some y/\RelV F w β x y)/\(o.map ρ=none->o.map σ=none):=by
 cases o with
 |none=>exact ⟨fun x e=>(by cases e),fun _=>rfl⟩
 |some y=>exact ⟨fun x e=>⟨σ y,rfl,by cases e;exact hρ y⟩,fun e=>(by cases e)⟩
theorem made_wide {H' id0 a r w'} (h:Made X F w β H' id0 a r w'):LeftW X F w β H' id0 a r w':=(Made.left h).wide
theorem fresh0 {id0:Nat} (fresh:∀ j,id0<=j->j<id0+W->β j=none):β id0=none:=fresh id0 (Nat.le_refl _) (by unfold W;omega)
theorem deepAt_some {a:AV} {id:Nat} {i:Int} {o:Nat} (h:deepAt H a=some (id,i,o)):a=.ptr id ⟨0,[(i,o)]⟩:=by
 unfold deepAt at h
 split at h
 ·rename_i id' p
  split at h
  ·rename_i i' o' hp
   split at h
   ·rename_i hc
    cases h
    obtain ⟨off,path⟩:=p
    simp only at hp hc
    rw [hp,hc.1]
   ·cases h
  ·cases h
 ·cases h
theorem deep1_some {b:Bool} {n:Nat} {l:List (Nat×Operand)} {x:Operand} (h:deep1 b n l=some x):n=1/\l=[(0,x)]:=by
 unfold deep1 at h
 split at h
 ·cases h;exact ⟨rfl,rfl⟩
 ·cases h
theorem sim_storeAny {H'} (g:Good X F w β H) {P:Program} {T:TypeId} {a v:AV} {u val:Value} (h:exStoreAny P T H a v=some H') (ha:RelV F w β a u) (hv:RelV F w β v val) :
  ∃ w',(Instr.storeAt T u val).run P w=.ok () w'/\Good X F w' β H'/\Ext F w β F w' β:=by
 unfold exStoreAny at h
 split at h
 ·rename_i id i o hdp
  rw [deepAt_some hdp] at ha
  exact sim_storeD g h ha hv
 ·exact sim_store g h ha hv
theorem sim_op {o:Op} {T:TypeId} {d p af gd} (hrun:RunSound cx.P cx.run) (hent:RunEnters cx.P cx.run) (g:Good X F w β H) {id0:Nat} (fresh:∀ j,id0<=j->j<id0+W->β j=none) {ρ:Operand->AV} {σ:Operand->Value} (hρ:∀ x,RelV F w β (ρ x) (σ x))
  {v:AV} {H':Heap} {hd:Bool} (h:exOp cx ρ o T H id0=some (v,H',hd)):OpFine cx X F w β H' id0 v ⟨d,o,T,p,af,gd⟩ σ:=by
 have hid:=fresh0 fresh
 cases o<;>simp only [exOp] at h
 case move x=>cases h;exact fine_pure g rfl (hρ x)
 case assign x=>cases h;exact fine_pure g rfl (hρ x)
 case pick c a b=>
  split at h
  ·rename_i hc
   cases h
   have e:=(hc▸hρ c:RelV F w β _ (σ c)).bool_inv
   refine fine_pure (r:=σ a) g ?_ (hρ a)
   simp [execOp,e,asBool]
  ·rename_i hc
   cases h
   have e:=(hc▸hρ c:RelV F w β _ (σ c)).bool_inv
   refine fine_pure (r:=σ b) g ?_ (hρ b)
   simp [execOp,e,asBool]
  ·cases h
 case alloc e=>
  cases hz:zeroL cx.P e with
  |none=>rw [hz] at h;cases h
  |some l=>
   rw [hz] at h
   simp only [zb] at h
   split at h
   ·rename_i hf
    cases h
    exact fine_val rfl (let ⟨r,w',h1,h2⟩:=sim_alloc g hid hz hf (.tuple #[]);⟨r,w',h1,made_wide h2⟩)
   ·cases h
 case box e x=>
  split at h
  ·rename_i hc
   cases h
   exact fine_val rfl (let ⟨r,w',h1,h2⟩:=sim_box g hid (hρ x) (isVal_of_cells hc.1 hc.2.1) hc.2.2;⟨r,w',h1,made_wide h2⟩)
  ·cases h
 case build t ps=>
  obtain ⟨h1,rfl⟩:=soft_some h
  exact fine_soft g rfl (sim_build g h1 (by rw [Array.toList_map];exact relParts_map hρ ps.toList))
 case buildSlice t n ps=>
  split at h
  ·obtain ⟨h1,rfl⟩:=soft_some h
   unfold exLit at h1
   obtain ⟨⟨e,u⟩,hT,h1⟩:=zB.1 h1
   obtain ⟨z,hz,h1⟩:=zB.1 h1
   (try simp only at h1)
   split at h1
   ·cases h1
   ·rename_i hc
    obtain ⟨xs,hx,rfl⟩:=zM.1 h1
    have hc1:¬ (2 ^ 24<n*u.sz):=fun e=>hc (.inl e)
    have hc2:n*u.sz≠0:=fun e=>hc (.inr (.inl e))
    have hc3:=fun e=>hc (.inr (.inr (.inl e)))
    have hc4:=fun e=>hc (.inr (.inr (.inr e)))
    have hnr:∀ (l:List AV),hasRow l=false->∀ id,AV.full id∉l/\∀ o lo h,AV.sub id o lo h∉l:=by
     intro l
     induction l with
     |nil=>intro _ id;exact ⟨fun h=>(by cases h),fun o lo h hm=>(by cases hm)⟩
     |cons a l ih=>
      intro hl id
      have h2:hasRow l=false:=by cases a<;>simp only [hasRow] at hl<;>first|exact hl|cases hl
      refine ⟨fun hm=>?_,fun o lo h hm=>?_⟩
      ·rcases List.mem_cons.1 hm with rfl|hm
       ·simp [hasRow] at hl
       ·exact (ih h2 id).1 hm
      ·rcases List.mem_cons.1 hm with rfl|hm
       ·simp [hasRow] at hl
       ·exact (ih h2 id).2 o lo h hm
    have hall:∀ (l:List (Nat×AV)),allDat l=true->∀ p∈l,∀ id,AV.full id∉p.2.leaves/\∀ o lo h,AV.sub id o lo h∉p.2.leaves:=by
     intro l
     induction l with
     |nil=>intro _ p hp;cases hp
     |cons q l ih=>
      intro hl p hp
      obtain ⟨i,a⟩:=q
      cases a<;>simp only [allDat] at hl<;>try cases hl
      ·rename_i t' x'
       rcases List.mem_cons.1 hp with rfl|hp
       ·intro id
        exact ⟨fun hm=>(by obtain ⟨_,_,e⟩:=dat_leaves _ _ _ hm;cases e),fun o l h hm=>by obtain ⟨_,_,e⟩:=dat_leaves _ _ _ hm;cases e⟩
       ·exact ih hl p hp
      ·rename_i ls
       simp only [Bool.and_eq_true,Bool.not_eq_true'] at hl
       rcases List.mem_cons.1 hp with rfl|hp
       ·exact hnr ls hl.1
       ·exact ih hl.2 p hp
    obtain ⟨r,w',q1,q2⟩:=sim_buildLit (P:=cx.P) g hid hT hz hc1 hc2 (ps:=ps.toList.map fun p=>(p.1,ρ p.2)) (qs:=ps.map fun p=>(p.1,σ p.2)) (by rw [Array.toList_map];exact relParts_map hρ ps.toList)
     (fun p hp=>by
      rcases Nat.lt_or_ge p.1 n with h|h
      ·exact h
      ·exact absurd (List.any_eq_true.2 ⟨p,hp,by simpa using h⟩) hc3)
     (fun id p hp=>hall _ (by simpa using hc4) p hp id)
     (setElems_mono (H:=fun _=>none) (fun id b h=>by cases h) hx)
    exact fine_val rfl ⟨r,w',q1,q2.wide⟩
  split at h
  ·rename_i x hdp
   obtain ⟨hn,hps⟩:=deep1_some hdp
   subst hn
   obtain ⟨r,w',h1,h2⟩:=sim_buildD (P:=cx.P) g hid h (hρ x)
   have e3:ps=#[(0,x)]:=by
    apply Array.ext'
    exact hps
   refine fine_val rfl ⟨r,w',?_,h2.wide⟩
   rw [e3];simpa using h1
  ·cases hT:elemTy cx.P t with
  |none=>rw [hT] at h;cases h
  |some q=>
  obtain ⟨e,u⟩:=q
  rw [hT] at h
  simp only [zb] at h
  cases hz:zeroD cx.P e u with
  |none=>rw [hz] at h;cases h
  |some z=>
  rw [hz] at h
  simp only [zb] at h
  split at h
  ·cases h
  ·rename_i hc
   cases hx:setElems (freezeL (ps.toList.flatMap fun p=>(ρ p.2).leaves) H) u (ps.toList.map fun p=>(p.1,ρ p.2)) (List.replicate n z) with
   |none=>rw [hx] at h;cases h
   |some xs=>
    rw [hx] at h
    cases h
    have hc1:¬ (2 ^ 24<n*u.sz):=fun e=>hc (.inl e)
    by_cases hn0:n=0
    ·subst hn0
     have hps:ps=#[]:=by
      apply Array.ext'
      cases hl:ps.toList with
      |nil=>rfl
      |cons p l=>exact absurd (.inr (.inr (by rw [hl];simp))) hc
     subst hps
     have hxs:xs=[]:=by
      have:some ([]:List u.D)=some xs:=hx
      cases this;rfl
     subst hxs
     obtain ⟨r,w',h1,h2⟩:=sim_buildNil (P:=cx.P) g hid hT
     exact fine_val rfl ⟨r,w',by rw [Array.map_empty];exact h1,h2.wide⟩
    have hc2:n*u.sz≠0:=fun e=>hc (.inr (.inl ⟨hn0,e⟩))
    have hc3:¬ ((ps.toList.any fun p=>decide (n<=p.1))=true):=fun e=>hc (.inr (.inr e))
    refine fine_val rfl ?_
    obtain ⟨r,w',h1,h2⟩:=sim_buildSlice (P:=cx.P) g hid hT hz hc1 hc2 (ps:=ps.toList.map fun p=>(p.1,ρ p.2)) (qs:=ps.map fun p=>(p.1,σ p.2)) (by rw [Array.toList_map];exact relParts_map hρ ps.toList)
     (fun p hp=>by
      obtain ⟨q,hq,rfl⟩:=List.mem_map.1 hp
      have:=hc3
      simp only [List.any_eq_true,decide_eq_true_eq,not_exists,not_and] at this
      have:=this q hq
      show q.1<n
      omega)
     (ls:=ps.toList.flatMap fun p=>(ρ p.2).leaves)
     (fun p hp a ha=>by
      obtain ⟨q,hq,rfl⟩:=List.mem_map.1 hp
      exact List.mem_flatMap.2 ⟨q,hq,ha⟩) hx
    exact ⟨r,w',h1,h2.wide⟩
 case load t a=>
  unfold exLoadAny at h
  split at h
  ·rename_i id i o hdp
   have hx:=hρ a
   rw [deepAt_some hdp] at hx
   obtain ⟨r,h1,h2⟩:=sim_loadD (P:=cx.P) g hid h hx
   exact fine_val rfl ⟨r,w,h1,h2.wide⟩
  ·obtain ⟨h1,rfl⟩:=soft_some h
   exact fine_soft g rfl (sim_load g h1 (hρ a))
 case store t b x=>
  cases hs:exStoreAny cx.P t H (ρ b) (ρ x) with
  |none=>rw [hs] at h;cases h
  |some h'=>
   rw [hs] at h
   cases h
   obtain ⟨w',h1,h2,h3⟩:=sim_storeAny g hs (hρ b) (hρ x)
   intro a next Q hn
   have he:execOp σ ⟨d,.store t b x,T,p,af,gd⟩=(do Instr.storeAt t (σ b) (σ x);pure Next.skip:Sem Next):=rfl
   rw [he,run_u h1]
   exact hn undef w' ⟨F,β,h2,h3,.any _,fun j hj=>.inl hj⟩
 case nilCheck x=>
  have hx:=hρ x
  split at h
  ·rename_i id p hc
   cases h
   rw [hc] at hx
   obtain ⟨c,b,o,e,_⟩:=hx.ptr_inv
   exact fine_pure (r:=σ x) g (by simp [execOp,e]) hx
  ·rename_i t y hc
   cases h
   rw [hc] at hx
   obtain ⟨b,o,us,e,_⟩:=hx.fptr_inv
   exact fine_pure (r:=σ x) g (by simp [execOp,e]) hx
  ·rename_i t y hc
   cases h
   rw [hc] at hx
   rcases hx.mp_inv with ⟨e,_⟩|⟨_,hp⟩
   ·cases e
   ·obtain ⟨b,o,us,e,_⟩:=hp.fptr_inv
    exact fine_pure (r:=σ x) g (by simp [execOp,e]) hp
  ·rename_i f cs hc
   cases h
   rw [hc] at hx
   obtain ⟨vs,e,_⟩:=hx.fn_inv
   exact fine_pure (r:=σ x) g (by simp [execOp,e]) hx
  ·cases h
 case binOp op t x y u=>
  obtain ⟨h1,rfl⟩:=soft_some h
  exact fine_soft g rfl (sim_bin h1 (hρ x) (hρ y))
 case unOp op t x=>
  obtain ⟨h1,rfl⟩:=soft_some h
  exact fine_soft g rfl (sim_un h1 (hρ x))
 case convert s t x=>
  exact fine_val rfl (let ⟨r,w',h1,h2⟩:=sim_convert g hid h (hρ x);⟨r,w',h1,h2.wide⟩)
 case makeFunc fn first caps=>
  cases fn with
  |func f=>
   simp only at h
   split at h
   ·rename_i h0
    cases h
    have h0':first=#[]:=by simpa using h0
    subst h0'
    refine fine_soft (s:=Instr.makeFunc (.func f) #[] (caps.map σ)) g (by simp [execOp]) ⟨.func (.func f) #[] (caps.map σ),rfl,?_⟩
    have e3:caps.map σ=(caps.toList.map σ).toArray:=by rw [←Array.toList_map]
    rw [e3]
    exact RelV.one _ _ rfl (RelC.fn f _ _ (relVs_map hρ caps.toList))
   ·cases h
  |_=>cases h
 case makeSlice t l c=>
  have hl:=hρ l
  have hc:=hρ c
  split at h
  ·obtain ⟨h1,rfl⟩:=soft_some h
   unfold exMakeDat at h1
   split at h1
   ·rename_i i x j y e1 e2
    rw [e1] at hl
    rw [e2] at hc
    obtain ⟨⟨e,u⟩,hT,h1⟩:=zB.1 h1
    obtain ⟨z,hz,h1⟩:=zB.1 h1
    (try simp only at h1)
    split at h1
    ·rename_i hb
     split at h1
     ·cases h1
     ·rename_i hb0
      cases h1
      obtain ⟨r,w',q1,q2⟩:=sim_makeDat (P:=cx.P) (i:=i) (j:=j) g hid hT hz hb.1 hb.2.1 hb.2.2 hb0
      refine fine_val (s:=Instr.makeSlice t (σ l) (σ c)) rfl ⟨r,w',?_,q2.wide⟩
      rw [hl.int_inv,hc.int_inv];exact q1
    ·cases h1
   ·cases h1
  split at h
  ·obtain ⟨r,w',h1,h2⟩:=sim_makeD (P:=cx.P) g hid h hl hc
   exact fine_val (s:=Instr.makeSlice t (σ l) (σ c)) rfl ⟨r,w',h1,h2.wide⟩
  split at h
  ·rename_i i x j y e1 e2
   rw [e1] at hl
   rw [e2] at hc
   cases hT:elemTy cx.P t with
   |none=>rw [hT] at h;cases h
   |some q=>
   obtain ⟨e,u⟩:=q
   rw [hT] at h
   simp only [zb] at h
   cases hz:zeroD cx.P e u with
   |none=>rw [hz] at h;cases h
   |some z=>
   rw [hz] at h
   simp only [zb] at h
   split at h
   ·rename_i hb
    split at h
    ·cases h
    ·rename_i hb0
     cases h
     obtain ⟨r,w',h1,h2⟩:=sim_makeSlice (i:=i) (j:=j) g hid hT hz hb.1 hb.2.1 hb.2.2 hb0
     refine fine_val (s:=Instr.makeSlice t (σ l) (σ c)) rfl ⟨r,w',?_,made_wide h2⟩
     rw [hl.int_inv,hc.int_inv];exact h1
   ·cases h
  ·cases h
 case slice t x lo hi mx=>
  cases mx with
  |some m=>
   cases lo with
   |none=>
    obtain ⟨r,w',h1,h2⟩:=sim_empty (P:=cx.P) g hid h (hρ x) (optRel hρ none) (optRel hρ hi) (mxv:=some (σ m)) ⟨fun y e=>⟨σ m,rfl,by cases e;exact hρ m⟩,fun e=>by cases e⟩
    exact fine_val rfl ⟨r,w',h1,h2.wide⟩
   |some l=>
    obtain ⟨h1,rfl⟩:=soft_some h
    exact fine_soft g rfl (sim_slice3 h1 (hρ x) (optRel hρ (some l)).1 (optRel hρ hi).1 (mxv:=some (σ m)) fun y e=>⟨σ m,rfl,by cases e;exact hρ m⟩)
  |none=>
   obtain ⟨h1,rfl⟩:=soft_some h
   exact fine_soft g rfl (sim_slice g h1 (hρ x) (optRel hρ lo) (optRel hρ hi) rfl)
 case fieldAddr s x f=>
  obtain ⟨h1,rfl⟩:=soft_some h
  exact fine_soft g rfl (sim_fieldAddr h1 (hρ x))
 case field s x f=>
  obtain ⟨h1,rfl⟩:=soft_some h
  exact fine_soft g rfl (sim_field h1 (hρ x))
 case indexAddr t x i=>
  obtain ⟨h1,rfl⟩:=soft_some h
  exact fine_soft g rfl (sim_indexAddr g h1 (hρ x) (hρ i))
 case index t x i=>
  obtain ⟨h1,rfl⟩:=soft_some h
  exact fine_soft g rfl (sim_index h1 (hρ x) (hρ i))
 case makeMap t r=>
  exact fine_val rfl (let ⟨q,w',h1,h2⟩:=sim_makeMap (P:=cx.P) g hid h (optRel hρ r);⟨q,w',h1,made_wide h2⟩)
 case lookup t x i ok=>
  obtain ⟨h1,rfl⟩:=soft_some h
  exact fine_soft g rfl (sim_lookup g h1 (hρ x) (hρ i))
 case mapUpdate t m x b=>
  cases hs:exMapUpdate cx.P t H (ρ m) (ρ x) (ρ b) with
  |none=>rw [hs] at h;cases h
  |some h'=>
   rw [hs] at h
   cases h
   obtain ⟨w',h1,h2,h3⟩:=sim_mapUpdate g hs (hρ m) (hρ x) (hρ b)
   intro a next Q hn
   have he:execOp σ ⟨d,.mapUpdate t m x b,T,p,af,gd⟩=(do Instr.mapUpdate t (σ m) (σ x) (σ b);pure Next.skip:Sem Next):=rfl
   rw [he,run_u h1]
   exact hn undef w' ⟨F,β,h2,h3,.any _,fun j hj=>.inl hj⟩
 case insert t m x b=>
  cases hs:exMapUpdate cx.P t H (ρ m) (ρ x) (ρ b) with
  |none=>rw [hs] at h;cases h
  |some h'=>
   rw [hs] at h
   cases h
   obtain ⟨w',h1,h2,h3⟩:=sim_mapUpdate g hs (hρ m) (hρ x) (hρ b)
   intro a next Q hn
   have he:execOp σ ⟨d,.insert t m x b,T,p,af,gd⟩=(do Instr.mapUpdate t (σ m) (σ x) (σ b);pure Next.skip:Sem Next):=rfl
   rw [he,run_u h1]
   exact hn undef w' ⟨F,β,h2,h3,.any _,fun j hj=>.inl hj⟩
 case extract x i=>
  have hx:=hρ x
  split at h
  ·rename_i xs e
   rw [e] at hx
   obtain ⟨h1,rfl⟩:=soft_some h
   obtain ⟨vs,e',hr⟩:=hx.tup_inv
   obtain ⟨y,hy,hv⟩:=hr.get h1
   refine fine_soft (s:=Instr.extract (σ x) i) g rfl ⟨y,?_,hv⟩
   rw [e']
   simp [Instr.extract,hy,pure,Sem.run]
  ·cases h
 case call c=>
  split at h
  ·rename_i f hf
   split at h
   ·rename_i q caps e
    have hx:=hρ f
    rw [e] at hx
    obtain ⟨vs,e',hr⟩:=hx.fn_inv
    obtain ⟨as,pin,hh,r',hrr⟩:=exCall_run h
    obtain ⟨fn,hfn,hb,hname⟩:=hent _ _ _ _ _ hrr
    have hcall:=sim_callCK (K:=Calls cx.P) (fun h hr=>Calls.mono h hr) hrun g fresh h (vals:=c.args.toList.map σ++vs) ((relVs_map hρ c.args.toList).append hr)
    intro a next Q hn
    have he:(execOp σ ⟨d,.call c,T,p,af,gd⟩).run cx.P w=.ok (.enter q (c.args.toList.map σ++vs).toArray) w:=by
     have e2:(c.args.toList.map σ++vs).toArray=(c.args.map σ)++vs.toArray:=by simp
     rw [e2,←enter_run hfn hb hname]
     simp [execOp,resolve,hf,Deferred.ofValue,e',invoke,Sem.run_bind,pure,Sem.run]
    rw [he,Oper.upon_enter]
    refine Calls.mono hcall fun e w' he=>?_
    obtain ⟨v',rfl,hl⟩:=he
    exact hn v' w' hl
   ·cases h
  ·rename_i b hb
   have hargs:=relVs_map hρ c.args.toList
   have ha:(c.args.map σ)=(c.args.toList.map σ).toArray:=by rw [←Array.toList_map]
   generalize hls:c.args.toList.map ρ=ls at h hargs
   generalize hus:c.args.toList.map σ=us at ha hargs
   have hat:c.argTypes=c.argTypes.toList.toArray:=rfl
   generalize c.argTypes.toList=ts at h hat
   have hex:∀ s:Sem Value,builtin b c.argTypes T (c.args.map fun | .const _=>true|_=>false) us.toArray=(do pure (Next.value (←s)):Sem Next)->(execOp σ ⟨d,.call c,T,p,af,gd⟩).run cx.P w=((do pure (Next.value (←s)):Sem Next)).run cx.P w:=by
    intro s hs
    rw [←hs,←ha]
    simp [execOp,resolve,hb,invoke,Sem.run_bind,pure,Sem.run]
    rfl
   have fin:∀ s:Sem Value,builtin b c.argTypes T (c.args.map fun | .const _=>true|_=>false) us.toArray=(do pure (Next.value (←s)):Sem Next)->(∃ r w',s.run cx.P w=.ok r w'/\LeftW X F w β H' id0 v r w')->OpFine cx X F w β H' id0 v ⟨d,.call c,T,p,af,gd⟩ σ:=by
    intro s hs ⟨r,w',h1,h2⟩ a next Q hn
    rw [hex s hs,run_v h1]
    exact hn r w' h2
   unfold exBuiltin at h
   split at h
   ·rename_i x
    cases hargs with
    |cons _ _ u us h1 h2=>
    cases h2
    split at h
    ·rename_i A
     obtain ⟨h3,e0⟩:=soft_some h
     subst e0
     cases hl:lenOf cx.P A H' x with
     |none=>rw [hl] at h3;cases h3
     |some n=>
      rw [hl] at h3
      cases h3
      refine fin (Builtin.len_ c.argTypes T #[u]) rfl ⟨_,w,?_,.same g (RelV.int rfl)⟩
      rw [hat]
      exact sim_len g hl h1
    ·cases h
   ·rename_i x y
    cases hargs with
    |cons _ _ u us h1 h2=>
    cases h2 with
    |cons _ _ u2 us h2 h3=>
    cases h3
    split at h
    ·rename_i A B
     refine fin (Builtin.append_ c.argTypes T #[u,u2]) rfl ?_
     rw [hat]
     split at h
     ·rename_i idb
      split at h
      ·obtain ⟨r,w',h4,h5⟩:=sim_appendD (ty:=T) g hid h h1 h2
       exact ⟨r,w',h4,h5.wide⟩
      ·obtain ⟨r,w',h4,h5⟩:=sim_append (ty:=T) g hid h h1 h2
       exact ⟨r,w',h4,h5.wide⟩
     ·obtain ⟨r,w',h4,h5⟩:=sim_append (ty:=T) g hid h h1 h2
      exact ⟨r,w',h4,h5.wide⟩
    ·cases h
   ·rename_i x y
    cases hargs with
    |cons _ _ u us h1 h2=>
    cases h2 with
    |cons _ _ u2 us h2 h3=>
    cases h3
    split at h
    ·rename_i A B
     refine fin (Builtin.copy_ c.argTypes T #[u,u2]) rfl ?_
     rw [hat]
     obtain ⟨r,w',h4,h5⟩:=sim_copy (ty:=T) g h h1 h2
     exact ⟨r,w',h4,h5.wide⟩
    ·cases h
   ·rename_i x l
    cases hargs with
    |cons _ _ u us h1 h2=>
    obtain ⟨h3,rfl⟩:=soft_some h
    obtain ⟨r,h4,h5⟩:=sim_minL (P:=cx.P) h3 h2 h1
    exact fin (Builtin.min_ c.argTypes T (u::us).toArray) rfl ⟨r,w,h4,.same g h5⟩
   ·rename_i x l
    cases hargs with
    |cons _ _ u us h1 h2=>
    obtain ⟨h3,rfl⟩:=soft_some h
    obtain ⟨r,h4,h5⟩:=sim_minL (P:=cx.P) h3 h2 h1
    exact fin (Builtin.max_ c.argTypes T (u::us).toArray) rfl ⟨r,w,h4,.same g h5⟩
   ·cases h
  ·cases h
 all_goals cases h
end
end
end Go.LM
