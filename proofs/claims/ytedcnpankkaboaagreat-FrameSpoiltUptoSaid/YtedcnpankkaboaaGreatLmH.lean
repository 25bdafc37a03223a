/- LmH: LmT5 LmT6 LmT7 LmT8 LmT9 LmBulk LmRowB LmP0 LmP1 LmP2. -/
import Derived.Test.YtedcnpankkaboaaGreatLmG
import Derived.Defers
import Derived.Test.YtedcnpankkaboaaGreatLmF
import Derived.IntWalk
set_option linter.unusedSimpArgs false
set_option linter.unusedVariables false
namespace Go.LM
section
def KeepsD (k:Nat) (s s':St):Prop:=∀ t (y:Ty.D t),s'.env k=.dat t y->s.env k=.dat t y
theorem KeepsD.refl {k s}:KeepsD k s s:=fun _ _ h=>h
theorem KeepsD.trans {k s s' s''} (h:KeepsD k s s') (h':KeepsD k s' s''):KeepsD k s s'':=fun t y e=>h t y (h' t y e)
theorem renA_dat {f:Nat->Nat} {a:AV} {t:Ty} {y:t.D} (h:renA f a=.dat t y):a=.dat t y:=by
 cases a<;>simp [renA] at h ⊢<;>exact h
theorem clean0_keeps {pin:Nat} {ks:List Nat} {s s':St} (h:clean0 pin ks s=some s') (k:Nat):KeepsD k s s':=by
 intro t y e
 unfold clean0 at h
 simp only at h
 split at h
 ·cases h
  simp only at e
  rcases find_assoc _ _ _ e with h1|h1
  ·cases h1
  ·obtain ⟨p,h2,h3⟩:=List.mem_map.1 h1
   obtain ⟨k',_,h4⟩:=List.mem_map.1 h2
   subst h4
   simp only [zP] at h3
   obtain ⟨h5,h6⟩:=h3
   subst h5
   exact renA_dat h6
 ·cases h
theorem clean_keeps {pin:Nat} {ks:List Nat} {s s':St} (h:clean pin ks s=some s') (k:Nat):KeepsD k s s':=by
 unfold clean at h
 exact fun t y e=>clean0_keeps h k t y e
theorem prom_keeps (p:Prom) (s:St) (k:Nat):KeepsD k s (p.go s):=by
 intro t y e
 cases p with
 |slot dp t' k'=>
  simp only [Prom.go,promSlot] at e
  split at e
  ·rename_i hn
   simp only [put] at e
   split at e
   ·cases e
   ·exact e
  ·exact e
 |part dp t' k' i=>
  simp only [Prom.go,promPart] at e
  split at e
  ·split at e
   ·simp only [put] at e
    split at e
    ·cases e
    ·exact e
   ·exact e
  ·exact e
 |leaf dp t' id i=>
  simp only [Prom.go,promLeaf] at e
  split at e
  ·split at e
   ·split at e
    ·exact e
    ·exact e
   ·exact e
  ·exact e
 |mp t' id i=>
  simp only [Prom.go,promMp] at e
  split at e
  ·split at e
   ·split at e
    ·split at e
     ·exact e
     ·exact e
    ·exact e
   ·exact e
  ·exact e
 |move id i=>
  simp only [Prom.go,promMove] at e
  split at e
  ·split at e
   ·split at e
    ·split at e
     ·exact e
     ·exact e
    ·exact e
   ·exact e
  ·exact e
theorem promAll_keeps:∀ (ps:List Prom) (s:St) (k:Nat),KeepsD k s (promAll ps s)
 | [],s,k=>KeepsD.refl
 |p::ps,s,k=>(prom_keeps p s k).trans (promAll_keeps ps (p.go s) k)
theorem exOps_keeps {cx:Cx} {ops:Array Oper} {base j:Nat}:∀ (l:List Oper) (k:Nat) (env:Nat->AV) (h:Heap) {env':Nat->AV} {h':Heap},(∀ o∈l,o.dst≠some j)->exOps cx ops base l k env h=some (env',h')->env' j=env j
 | [],k,env,h,env',h',hl,e=>by simp only [exOps,zS,zP] at e;rw [←e.1]
 |o::l,k,env,h,env',h',hl,e=>by
  have hl':∀ o∈l,o.dst≠some j:=fun o ho=>hl o (by simp [ho])
  have hj:∀ (env:Nat->AV) v,put env o.dst v j=env j:=fun env v=>by
   have:=hl o (by simp)
   cases hd:o.dst with
   |none=>rfl
   |some d=>simp only [put];rw [if_neg];intro e;rw [hd,e] at this;exact this rfl
  have doIt:∀ (env:Nat->AV),((exOp cx (evalO env) o.op o.type h (base+k*W)).bind fun q=>exOps cx ops base l (k+1) (put env o.dst q.1) q.2.1)=some (env',h')->env' j=env j:=by
   intro env e
   obtain ⟨q,_,h2⟩:=zB.1 e
   rw [exOps_keeps l (k+1) _ _ hl' h2,hj]
  have skip:∀ (env:Nat->AV),exOps cx ops base l (k+1) (put env o.dst (.tup [])) h=some (env',h')->env' j=env j:=fun env e=>by
   rw [exOps_keeps l (k+1) _ _ hl' e,hj]
  simp only [exOps] at e
  split at e
  ·exact doIt env e
  ·split at e
   ·cases e
   ·rename_i g hd
    split at e
    ·rename_i b hb
     split at e
     ·rw [put_same hb] at e;exact doIt env e
     ·rw [put_same hb] at e;exact doIt env e
     ·rw [put_same hb] at e;exact skip env e
     ·rw [put_same hb] at e;exact skip env e
    ·exact skip env e
    ·cases e
theorem exOpsF_keeps {cx:Cx} {pv:Nat->Bool} {ops:Array Oper} {base j:Nat}:∀ (l:List Oper) (k:Nat) (env:Nat->AV) (h:Heap) {env':Nat->AV} {h':Heap} {fl},(∀ o∈l,o.dst≠some j)->exOpsF cx pv ops base l k env h=some (env',h',fl)->env' j=env j
 | [],k,env,h,env',h',fl,hl,e=>by simp only [exOpsF,zS,zP] at e;rw [←e.1]
 |o::l,k,env,h,env',h',fl,hl,e=>by
  have hl':∀ o∈l,o.dst≠some j:=fun o ho=>hl o (by simp [ho])
  simp only [exOpsF] at e
  split at e
  ·cases e
  ·split at e
   ·cases e
   split at e
   ·cases e
   ·rename_i h2
    cases e
    rw [exOpsF_keeps l (k+1) _ _ hl' h2]
    have:=hl o (by simp)
    cases hd:o.dst with
    |none=>rfl
    |some d=>simp only [put];rw [if_neg];intro e;rw [hd,e] at this;exact this rfl
theorem sameDat_eq {G:Nat->AV}:∀ (f:List (Nat×AV)) (rest:List (Nat×AV)),(∀ p∈f,∀ t (y:Ty.D t),G p.1=.dat t y->p.2=.dat t y)->sameDat f (f.map (fun p=>(p.1,G p.1))++rest)=true->f.map (fun p=>(p.1,G p.1))=f
 | [],_,_,_=>rfl
 |p::f,rest,h,hs=>by
  simp only [List.map_cons,List.cons_append,sameDat,Bool.and_eq_true] at hs
  have h1:=hs.1
  split at h1
  ·rename_i t x hp
   obtain ⟨y,hy⟩:=Option.isSome_iff_exists.1 h1
   have e:=datOf_some hy
   have e2:=h p (by simp) t y e
   simp only [List.map_cons]
   rw [sameDat_eq f rest (fun p hp=>h p (by simp [hp])) hs.2,e,←e2]
  ·cases h1
theorem cleanC0_vs {pin:Nat} {keep:List Nat} {s:St} {c:CSt} (h:cleanC0 pin keep s=some c):∃ g,c.vs=keep.map fun k=>(k,renA g (s.env k)):=by
 unfold cleanC0 at h
 simp only at h
 split at h
 ·cases h
  exact ⟨fun id=>(idxOf id (reach s.heap 8 (addNew (List.range pin) ((keep.map fun k=>(k,s.env k)).flatMap fun p=>idsA p.2))) 0).getD 0,by rw [List.map_map];rfl⟩
 ·cases h
theorem cleanC_vs {pin:Nat} {keep:List Nat} {s:St} {c:CSt} (h:cleanC pin keep s=some c):∃ g,c.vs=keep.map fun k=>(k,renA g (s.env k)):=by
 unfold cleanC at h
 have h2:=cleanC0_vs h
 exact h2
theorem pack1_ok {pin:Nat} {a:An} {fv:List (Nat×AV)} {s:St} {e e':Exit} {c:CSt} (hk:∀ p∈fv,∀ t (y:Ty.D t),s.env p.1=.dat t y->p.2=.dat t y) (h:pack1 pin a fv (e,s)=some (e',c)) :
  e'=e/\∃ ks,clean pin ks s=some (c.stF (fvE a fv e)):=by
 unfold pack1 at h
 obtain ⟨ks,_,h⟩:=zB.1 h
 simp only at h
 obtain ⟨c0,h1,h⟩:=zB.1 h
 split at h
 ·rename_i hs
  simp only [zS,zP] at h
  obtain ⟨rfl,rfl⟩:=h
  refine ⟨rfl,_,(cleanC_eq h1).trans ?_⟩
  have hvs:∃ G:Nat->AV,(∀ k t (y:Ty.D t),G k=.dat t y->s.env k=.dat t y)/\∃ rest,c0.vs=(fvE a fv e).map (fun p=>(p.1,G p.1))++rest:=by
   obtain ⟨g,hg⟩:=cleanC_vs h1
   exact ⟨fun k=>renA g (s.env k),fun k t y e=>renA_dat e,_,by rw [hg,List.map_append,List.map_map];rfl⟩
  obtain ⟨G,hG,rest,hvs⟩:=hvs
  have hfin:∀ p∈fvE a fv e,p∈fv:=fun p hp=>by
   unfold fvE at hp
   split at hp
   ·exact (List.mem_filter.1 hp).1
   ·cases hp
  rw [hvs] at hs
  have heq:=sameDat_eq _ _ (fun p hp t y e=>hk p (hfin p hp) t y (hG _ t y e)) hs
  rw [heq] at hvs
  have:c0=⟨fvE a fv e++c0.vs.drop (fvE a fv e).length,c0.bl⟩:=by
   cases c0
   simp only at hvs ⊢
   rw [hvs];simp
  unfold CSt.stF CSt.st
  conv=>lhs;rw [this]
 ·cases h
def FV (fv:List (Nat×AV)) (s:St):Prop:=∀ p∈fv,s.env p.1=p.2
theorem fixVals_FV (x:Code) (a:An) (s:St):FV (fixVals x a s) s:=by
 intro p hp
 unfold fixVals at hp
 obtain ⟨k,_,rfl⟩:=List.mem_map.1 hp
 rfl
theorem fixVals_asg {x:Code} {a:An} {s:St} {p:Nat×AV} (hp:p∈fixVals x a s):asg x p.1=false:=by
 unfold fixVals at hp
 obtain ⟨k,h,rfl⟩:=List.mem_map.1 hp
 have:=(List.mem_filter.1 h).2
 simp only [Bool.and_eq_true,Bool.not_eq_true'] at this
 exact this.1
theorem fixVals_det {x:Code} {a:An} {s:St} {p q:Nat×AV} (hp:p∈fixVals x a s) (hq:q∈fixVals x a s) (h:p.1=q.1):p.2=q.2:=by
 rw [←fixVals_FV x a s p hp,←fixVals_FV x a s q hq,h]
theorem fvE_sub {a:An} {fv:List (Nat×AV)} {e:Exit} {p:Nat×AV} (hp:p∈fvE a fv e):p∈fv:=by
 unfold fvE at hp
 split at hp
 ·exact (List.mem_filter.1 hp).1
 ·cases hp
theorem stF_FV {fv:List (Nat×AV)} (hd:∀ p∈fv,∀ q∈fv,p.1=q.1->p.2=q.2) (c:CSt):FV fv (c.stF fv):=by
 intro p hp
 unfold CSt.stF assoc
 simp only
 cases hf:(fv++c.vs).find? (fun q=>q.1 == p.1) with
 |none=>
  have:=List.find?_eq_none.1 hf p (by simp [hp])
  simp at this
 |some q=>
  simp only
  have h1:=List.find?_some hf
  simp only [beq_iff_eq] at h1
  rw [List.find?_append] at hf
  cases hq:fv.find? (fun q=>q.1 == p.1) with
  |none=>
   have:=List.find?_eq_none.1 hq p hp
   simp at this
  |some q'=>
   rw [hq] at hf
   simp only [Option.some_or,zS] at hf
   subst hf
   exact hd q' (List.mem_of_find?_eq_some hq) p hp h1
theorem joinT_ok {pin:Nat} {a:An} {fv:List (Nat×AV)} {t:Tr (Exit×St)} {s0:St} {e:Exit} {s':St} (hfv:FV fv s0) (hk:∀ e s1,t.run=some (e,s1)->∀ p∈fv,KeepsD p.1 s0 s1) (h:(joinT pin a fv t).run=some (e,s')) :
  ∃ s1,t.run=some (e,s1)/\(s'=s1\/∃ ks,clean pin ks s1=some s'):=by
 unfold joinT at h
 split at h
 ·exact ⟨s',h,.inl rfl⟩
 ·simp only at h
  split at h
  ·exact ⟨s',h,.inl rfl⟩
  ·split at h
   ·split at h
    ·exact ⟨s',h,.inl rfl⟩
    ·rename_i z hz
     simp only [Tr.run] at h
     obtain ⟨d,h1,h2⟩:=zB.1 h
     obtain ⟨⟨e1,s1⟩,h3,h4⟩:=Tr.run_some h1
     unfold toAlt at h4
     split at h4
     ·cases h4
     ·rename_i e2 c hp
      obtain ⟨rfl,ks,hc⟩:=pack1_ok (fun p hp t y he=>by rw [←hfv p hp];exact hk _ _ h3 p hp t y he) hp
      split at h4
      ·cases h4
      ·rename_i d' hd
       simp only [Tr.run,zS] at h4
       subst h4
       have:=Alts.of_tr (fv:=fvE a fv) hd
       rw [this] at h2
       cases h2
       exact ⟨s1,h3,.inr ⟨ks,hc⟩⟩
   ·exact ⟨s',h,.inl rfl⟩
def LoopN (pin:Nat) (body:St->Tr (Exit×St)) (e:Exit) (s':St):Nat->St->Prop
 |0,_=>False
 |n+1,s=>∃ e2 s2,(body s).run=some (e2,s2)/\((e2=.normal/\∃ ks s3,clean pin ks s2=some s3/\LoopN pin body e s' n s3)\/(e2≠.normal/\e2=e/\∃ ks,clean pin ks s2=some s'))
inductive Ready (pin:Nat):St->St->Prop
 |refl (s):Ready pin s s
 |clean (s s1 s2 ks):clean pin ks s=some s1->Ready pin s1 s2->Ready pin s s2
 |prom (s ps s2):Ready pin (promAll ps s) s2->Ready pin s s2
theorem Ready.keeps {pin s s1} (h:Ready pin s s1) (k:Nat):KeepsD k s s1:=by
 induction h with
 |refl=>exact KeepsD.refl
 |clean s s1 s2 ks h _ ih=>exact (clean_keeps h k).trans ih
 |prom s ps s2 _ ih=>exact (promAll_keeps ps s k).trans ih
theorem isNorm_true {e:Exit} (h:isNorm e=true):e=.normal:=by cases e<;>simp [isNorm] at h ⊢
theorem isNorm_false {e:Exit} (h:isNorm e=false):e≠.normal:=by intro e';subst e';cases h
theorem fvE_idem {a:An} {fv:List (Nat×AV)}:fvE a (fvE a fv .normal) .normal=fvE a fv .normal:=by
 unfold fvE
 cases a.keep .normal with
 |none=>rfl
 |some ks=>simp
theorem loop_go {pin:Nat} {a:An} {fv:List (Nat×AV)} {body:St->Tr (Exit×St)} {s':St} {e:Exit} (hdet:∀ p∈fv,∀ q∈fv,p.1=q.1->p.2=q.2) (hidem:fvE a fv .normal=fv)
  (hk:∀ s1 e1 s2,(body s1).run=some (e1,s2)->∀ p∈fv,KeepsD p.1 s1 s2) {sh:CSh} {al:Alts} {r:Alts.D al} (h2:(Alts.tr (fvE a fv) al r).run=some (e,s')) :
  ∀ (n:Nat) (d:Dof sh.T),itN (fun d=>((body ((sh.to d).stF fv)).andThen (stepT pin a fv sh al)).run) n d=some r->LoopN pin body e s' n ((sh.to d).stF fv):=by
 intro n
 induction n with
 |zero=>intro d h;cases h
 |succ n ih=>
  intro d h
  simp only [itN] at h
  split at h
  ·cases h
  ·rename_i d' hs
   obtain ⟨⟨e1,s2⟩,h3,h4⟩:=Tr.run_some hs
   unfold stepT at h4
   split at h4
   ·cases h4
   ·rename_i e2 c2 hp
    obtain ⟨rfl,ks,hcl⟩:=pack1_ok (fun p hp t y he=>by rw [←stF_FV hdet (sh.to d) p hp];exact hk _ _ _ h3 p hp t y he) hp
    split at h4
    ·rename_i hno
     have:=isNorm_true hno
     subst this
     split at h4
     ·cases h4
     ·rename_i d2 hd2
      simp only [Tr.run,zS,Sum.inl.injEq] at h4
      subst h4
      rw [hidem,CSh.of_to hd2] at hcl
      exact ⟨_,_,h3,.inl ⟨rfl,ks,_,hcl,ih _ h⟩⟩
    ·split at h4
     ·cases h4
     ·simp only [Tr.run,zS,reduceCtorEq] at h4
  ·rename_i r' hs
   cases h
   obtain ⟨⟨e1,s2⟩,h3,h4⟩:=Tr.run_some hs
   unfold stepT at h4
   split at h4
   ·cases h4
   ·rename_i e2 c2 hp
    obtain ⟨rfl,ks,hcl⟩:=pack1_ok (fun p hp t y he=>by rw [←stF_FV hdet (sh.to d) p hp];exact hk _ _ _ h3 p hp t y he) hp
    split at h4
    ·split at h4
     ·cases h4
     ·simp only [Tr.run,zS,reduceCtorEq] at h4
    ·rename_i hno
     split at h4
     ·cases h4
     ·rename_i d2 hd2
      simp only [Tr.run,zS,Sum.inr.injEq] at h4
      subst h4
      have:=Alts.of_tr (fv:=fvE a fv) hd2
      rw [this] at h2
      cases h2
      exact ⟨_,_,h3,.inr ⟨isNorm_false hno,rfl,ks,hcl⟩⟩
theorem loopT_ok {pin:Nat} {a:An} {fv0:List (Nat×AV)} {body:St->Tr (Exit×St)} {s s':St} {e:Exit} (hfv:FV fv0 s) (hdet:∀ p∈fv0,∀ q∈fv0,p.1=q.1->p.2=q.2)
  (hk:∀ s1 e1 s2,(body s1).run=some (e1,s2)->∀ p∈fv0,KeepsD p.1 s1 s2) (h:(loopT pin a fv0 body s).run=some (e,s')) :
  ∃ s1 n,Ready pin s s1/\LoopN pin body e s' n s1:=by
 unfold loopT at h
 simp only at h
 have hdet':∀ p∈fvE a fv0 .normal,∀ q∈fvE a fv0 .normal,p.1=q.1->p.2=q.2:=fun p hp q hq=>hdet p (fvE_sub hp) q (fvE_sub hq)
 have hsub:∀ p∈fvE a fv0 .normal,p∈fv0:=fun p hp=>fvE_sub hp
 have hidem:=fvE_idem (a:=a) (fv:=fv0)
 generalize hfvn:fvE a fv0 .normal=fv at h hdet' hsub hidem
 split at h
 ·cases h
 ·rename_i c hc
  obtain ⟨⟨e0,c0⟩,h0,hw⟩:=zB.1 hc
  obtain ⟨_,ks0,hc0⟩:=pack1_ok (fun p hp t y he=>by rw [←hfv p (hsub p hp)];exact he) h0
  simp only [hidem] at hc0
  have wid:∀ (n:Nat) (c0 c:CSt),widen pin a fv body n c0=some c->Ready pin (c0.stF fv) (c.stF fv):=by
   intro n
   induction n with
   |zero=>intro c0 c h;simp only [widen,zS] at h;subst h;exact .refl _
   |succ n ih=>
    intro c0 c h
    simp only [widen] at h
    split at h
    ·cases h;exact .refl _
    ·obtain ⟨⟨e1,c1⟩,h1,h2⟩:=zB.1 h
     obtain ⟨_,ks,hcl⟩:=pack1_ok (fun p hp t y he=>by rw [←stF_FV hdet' c0 p hp];exact promAll_keeps _ _ _ t y he) h1
     rw [hidem] at hcl
     exact .prom _ _ _ (.clean _ _ _ ks hcl (ih c1 c h2))
  have hr:Ready pin s (c.stF fv):=.clean _ _ _ ks0 hc0 (wid 3 c0 c hw)
  (try simp only at h)
  split at h
  ·cases h
  ·rename_i d hd
   split at h
   ·cases h
   ·rename_i z hz
    simp only [Tr.run] at h
    obtain ⟨r,h1,h2⟩:=zB.1 h
    obtain ⟨n,hn⟩:=loopO_some.1 h1
    refine ⟨c.stF fv,n,hr,?_⟩
    have hcd:=CSh.of_to hd
    have:=loop_go hdet' hidem (fun s1 e1 s2 h p hp=>hk s1 e1 s2 h p (hsub p hp)) h2 n d hn
    rw [←hcd] at this
    exact this
theorem LoopN.keeps {pin:Nat} {body:St->Tr (Exit×St)} {e:Exit} {s':St} {k:Nat} (hk:∀ s1 e1 s2,(body s1).run=some (e1,s2)->KeepsD k s1 s2):∀ (n:Nat) (s:St),LoopN pin body e s' n s->KeepsD k s s'
 |0,s,h=>h.elim
 |n+1,s,h=>by
  obtain ⟨e2,s2,h1,h2⟩:=h
  rcases h2 with ⟨rfl,ks,s3,h3,h4⟩|⟨_,rfl,ks,h3⟩
  ·exact (hk _ _ _ h1).trans ((clean_keeps h3 k).trans (LoopN.keeps hk n s3 h4))
  ·exact (hk _ _ _ h1).trans (clean_keeps h3 k)
end
section
theorem asg_region {id:Nat} {ops:Array Oper} {d:Bool} {k:Nat} (h:asg (.region id ops d) k=false):∀ o∈ops.toList,o.dst≠some k:=by
 intro o ho e
 simp only [asg] at h
 have:=List.any_eq_false.1 h o ho
 rw [e] at this
 simp at this
theorem loopBody_keeps {cx:TCx} {pin:Nat} {x:Code} {a:An} {k:Nat} (ih:∀ (a:An) (s:St) (e:Exit) (s':St),(tCode cx pin x a s).run=some (e,s')->KeepsD k s s') (s:St) (e:Exit) (s':St) (b:An) (h:(loopT pin b (fixVals (.loop x) b s) (tCode cx pin x a) s).run=some (e,s'))
  (hall:∀ p∈fixVals (.loop x) b s,∀ s1 e1 s2,(tCode cx pin x a s1).run=some (e1,s2)->KeepsD p.1 s1 s2):KeepsD k s s':=by
 obtain ⟨s1,n,h1,h2⟩:=loopT_ok (fixVals_FV _ _ _) (fun p hp q hq=>fixVals_det hp hq) (fun s1 e1 s2 h p hp=>hall p hp s1 e1 s2 h) h
 exact (h1.keeps k).trans (LoopN.keeps (fun s1 e1 s2 h=>ih a s1 e1 s2 h) n s1 h2)
theorem tCode_keeps {cx:TCx} {pin:Nat}:∀ (x:Code) (k:Nat),asg x k=false->∀ (a:An) (s:St) (e:Exit) (s':St),(tCode cx pin x a s).run=some (e,s')->KeepsD k s s'
 |.skip,k,hk,a,s,e,s',h=>by simp only [tCode,Tr.run,zS,zP] at h;rw [←h.2];exact KeepsD.refl
 |.region id ops false,k,hk,a,s,e,s',h=>by
  simp only [tCode] at h
  have key:∀ k,asg (.region id ops false) k=false->∀ e s1,((tOps cx ops s.next ops.toList 0 [] s.env s.heap).andThen fun q=>Tr.ret (Exit.normal,(⟨q.1,q.2,s.next+ops.size*W⟩:St))).run=some (e,s1)->KeepsD k s s1:=by
   intro k hk e s1 h
   obtain ⟨⟨env,h'⟩,h1,h2⟩:=Tr.run_some h
   simp only [Tr.run,zS,zP] at h2
   have h3:=exOps_keeps _ _ _ _ (asg_region hk) (tOps_ok _ _ _ _ _ FactsOK.nil h1)
   intro t y he
   rw [←h2.2] at he
   simp only at he
   rw [h3] at he;exact he
  obtain ⟨s1,h1,h2⟩:=joinT_ok (fixVals_FV _ _ _) (fun e s1 h p hp=>key p.1 (fixVals_asg hp) e s1 h) h
  rcases h2 with rfl|⟨ks,h2⟩
  ·exact key k hk _ _ h1
  ·exact (key k hk _ _ h1).trans (clean_keeps h2 k)
 |.region id ops true,k,hk,a,s,e,s',h=>by
  simp only [tCode] at h
  have key:∀ k,asg (.region id ops true) k=false->∀ e s1,((tOpsF cx (stIn ops s.env) ops s.next ops.toList 0 [] s.env (preH cx.P ops s.next (trimH s.next s.heap)) []).andThen fun q=>match drawOK cx.P ops q.2.2 with
    |true=>Tr.ret (Exit.normal,(⟨q.1,q.2.1,s.next+ops.size*W⟩:St))
    |false=>Tr.fail (.other 15)).run=some (e,s1)->KeepsD k s s1:=by
   intro k hk e s1 h
   obtain ⟨⟨env,h',fl⟩,h1,h2⟩:=Tr.run_some h
   simp only at h2
   split at h2
   ·simp only [Tr.run,zS,zP] at h2
    have h3:=exOpsF_keeps _ _ _ _ (asg_region hk) (tOpsF_ok h1)
    intro t y he
    rw [←h2.2] at he
    simp only at he
    rw [h3] at he;exact he
   ·cases h2
  obtain ⟨s1,h1,h2⟩:=joinT_ok (fixVals_FV _ _ _) (fun e s1 h p hp=>key p.1 (fixVals_asg hp) e s1 h) h
  rcases h2 with rfl|⟨ks,h2⟩
  ·exact key k hk _ _ h1
  ·exact (key k hk _ _ h1).trans (clean_keeps h2 k)
 |.seq x y,k,hk,a,s,e,s',h=>by
  simp only [asg,Bool.or_eq_false_iff] at hk
  simp only [tCode] at h
  obtain ⟨⟨e1,s1⟩,h1,h2⟩:=Tr.run_some h
  have i1:=tCode_keeps x k hk.1 _ _ _ _ h1
  cases e1 with
  |normal=>exact i1.trans (tCode_keeps y k hk.2 _ _ _ _ h2)
  |_=>
   simp only [Tr.run,zS,zP] at h2
   rw [←h2.2];exact i1
 |.cond c x y,k,hk,a,s,e,s',h=>by
  have key:∀ k,asg (.cond c x y) k=false->∀ b e s1,(Tr.br b (tCode cx pin x a.l s) (tCode cx pin y a.r s)).run=some (e,s1)->KeepsD k s s1:=by
   intro k hk b e s1 h
   simp only [asg,Bool.or_eq_false_iff] at hk
   cases b with
   |true=>simp only [Tr.run,zC] at h;exact tCode_keeps x k hk.1 _ _ _ _ h
   |false=>simp only [Tr.run,zc] at h;exact tCode_keeps y k hk.2 _ _ _ _ h
  simp only [tCode] at h
  split at h
  ·split at h
   ·exact key k hk true e s' h
   ·exact key k hk false e s' h
  ·split at h
   ·obtain ⟨s1,h1,h2⟩:=joinT_ok (fixVals_FV _ _ _) (fun e s1 h p hp=>key p.1 (fixVals_asg hp) _ e s1 h) h
    rcases h2 with rfl|⟨ks,h2⟩
    ·exact key k hk _ _ _ h1
    ·exact (key k hk _ _ _ h1).trans (clean_keeps h2 k)
   ·cases h
 |.block id x,k,hk,a,s,e,s',h=>by
  have key:∀ k,asg (.block id x) k=false->∀ e s1,((tCode cx pin x a.l s).andThen fun q=>Tr.ret (unblockE id q.1,q.2)).run=some (e,s1)->KeepsD k s s1:=by
   intro k hk e s1 h
   obtain ⟨⟨e1,s2⟩,h1,h2⟩:=Tr.run_some h
   simp only [Tr.run,zS,zP] at h2
   rw [←h2.2]
   exact tCode_keeps x k (by simpa only [asg] using hk) _ _ _ _ h1
  simp only [tCode] at h
  obtain ⟨s1,h1,h2⟩:=joinT_ok (fixVals_FV _ _ _) (fun e s1 h p hp=>key p.1 (fixVals_asg hp) e s1 h) h
  rcases h2 with rfl|⟨ks,h2⟩
  ·exact key k hk _ _ h1
  ·exact (key k hk _ _ h1).trans (clean_keeps h2 k)
 |.loop x,k,hk,a,s,e,s',h=>by
  simp only [tCode] at h
  refine loopBody_keeps (fun a s e s' h=>tCode_keeps x k (by simpa only [asg] using hk) a s e s' h) s e s' a h ?_
  intro p hp s1 e1 s2 h
  exact tCode_keeps x p.1 (by have:=fixVals_asg hp;simpa only [asg] using this) _ _ _ _ h
 |.exit id,k,hk,a,s,e,s',h=>by simp only [tCode,Tr.run,zS,zP] at h;rw [←h.2];exact KeepsD.refl
 |.ret,k,hk,a,s,e,s',h=>by simp only [tCode,Tr.run,zS,zP] at h;rw [←h.2];exact KeepsD.refl
 |.goto ..,k,hk,a,s,e,s',h=>by simp only [tCode,Tr.run,zS,zP] at h;rw [←h.2];exact KeepsD.refl
 |.label ..,k,hk,a,s,e,s',h=>by simp only [tCode,Tr.run,zS,zP] at h;rw [←h.2];exact KeepsD.refl
 |.scope x,k,hk,a,s,e,s',h=>by
  simp only [tCode] at h
  obtain ⟨⟨e1,s2⟩,h1,h2⟩:=Tr.run_some h
  simp only at h2
  split at h2
  ·cases h2
  ·simp only [Tr.run,zS,zP] at h2
   rw [←h2.2]
   exact tCode_keeps x k (by simpa only [asg] using hk) _ _ _ _ h1
 |.rangeFunc ..,k,hk,a,s,e,s',h=>by simp only [tCode] at h;cases h
 |.refuse ..,k,hk,a,s,e,s',h=>by simp only [tCode] at h;cases h
section
variable {X:Cst} {N pin:Nat} {F0:Nat->Prop} {w0:World} {β0:Nat->Option Conc}
theorem relCs_set {F:Nat->Prop} {w:World} {β:Nat->Option Conc} {n:Nat} (hn:RelC F w β (.full n) [.slice none 0 0]):∀ {cs:List AV} {vs:List Value} {i:Nat},RelCs F w β cs vs->cs[i]?=some .nilS->RelCs F w β (cs.set i (.full n)) vs
 | [],_,_,.nil,h=>by simp at h
 |_::_,_,0,.cons a l us vs h1 h2 h3,h=>by
  simp only [List.getElem?_cons_zero,zS] at h
  subst h
  cases h1
  exact .cons _ _ _ _ hn rfl h3
 |_::_,_,i+1,.cons a l us vs h1 h2 h3,h=>by
  simp only [List.getElem?_cons_succ] at h
  simp only [List.set_cons_succ]
  exact .cons _ _ _ _ h1 h2 (relCs_set hn h3 h)
theorem set_leafSh {n:Nat}:∀ {cs:List AV} {i:Nat},cs[i]?=some .nilS->(cs.set i (.full n)).map leafSh=cs.map leafSh/\flat (cs.set i (.full n))=flat cs
 | [],_,h=>by simp at h
 |a::l,0,h=>by
  simp only [List.getElem?_cons_zero,zS] at h
  subst h
  exact ⟨rfl,rfl⟩
 |a::l,i+1,h=>by
  simp only [List.getElem?_cons_succ] at h
  obtain ⟨h1,h2⟩:=set_leafSh (n:=n) h
  simp only [List.set_cons_succ,List.map_cons,h1]
  refine ⟨trivial,?_⟩
  unfold flat at h2 ⊢
  simp only [List.all_cons,h2]
theorem emptyBlk_or (dp:Bool) (t:Ty):emptyBlk dp t=.row t [] false\/(deepK t=true/\emptyBlk dp t=.deep t [] none):=by
 unfold emptyBlk
 split
 ·split
  ·rename_i h;exact .inr ⟨h,rfl⟩
  ·exact .inl rfl
 ·exact .inl rfl
theorem rel_set {F:Nat->Prop} {w:World} {β:Nat->Option Conc} {a b:AV} (hz:b.csz=1) (hr:∀ us,RelC F w β a us->∃ v,us=[v]/\RelC F w β b [v]):∀ {cs:List AV} {vs:List Value} {i:Nat},RelCs F w β cs vs->cs[i]?=some a->RelCs F w β (cs.set i b) vs
 | [],_,_,.nil,h=>by simp at h
 |_::_,_,0,.cons a' l us vs h1 h2 h3,h=>by
  simp only [List.getElem?_cons_zero,zS] at h
  subst h
  obtain ⟨v,rfl,hb⟩:=hr us h1
  exact .cons _ _ _ _ hb (by rw [hz];rfl) h3
 |_::_,_,i+1,.cons a' l us vs h1 h2 h3,h=>by
  simp only [List.getElem?_cons_succ] at h
  simp only [List.set_cons_succ]
  exact .cons _ _ _ _ h1 h2 (rel_set hz hr h3 h)
theorem set_leafSh' {a b:AV} (ha:leafSh a=leafSh b) (hz:a.csz=b.csz):∀ {cs:List AV} {i:Nat},cs[i]?=some a->(cs.set i b).map leafSh=cs.map leafSh/\flat (cs.set i b)=flat cs
 | [],_,h=>by simp at h
 |a'::l,0,h=>by
  simp only [List.getElem?_cons_zero,zS] at h
  subst h
  refine ⟨by simp [ha],?_⟩
  unfold flat
  simp only [List.set_cons_zero,List.all_cons,ha,hz]
 |a'::l,i+1,h=>by
  simp only [List.getElem?_cons_succ] at h
  obtain ⟨h1,h2⟩:=set_leafSh' ha hz h
  simp only [List.set_cons_succ,List.map_cons,h1]
  refine ⟨trivial,?_⟩
  unfold flat at h2 ⊢
  simp only [List.all_cons,h2]
theorem Good.leaf {X:Cst} {F:Nat->Prop} {w:World} {β:Nat->Option Conc} {H:Heap} (g:Good X F w β H) {id i:Nat} {cs:List AV} {b:AV} (h:H id=some (.vars cs))
  (hs:(cs.set i b).map leafSh=cs.map leafSh/\flat (cs.set i b)=flat cs) (hr:∀ c l,β id=some c->RelCs F w β cs l->RelCs F w β (cs.set i b) l):Good X F w β (H.set id (.vars (cs.set i b))):=by
 have hown:∀ {j c b'},Owned w c ((H.set id (.vars (cs.set i b))) j) b'->Owned w c (H j) b':=fun {j c b'} ho=>by
  by_cases e:j=id
  ·subst e
   rw [zJ] at ho
   rw [h]
   exact ⟨rfl,ho.2.imp (fun h=>h) (fun h=>h.elim)⟩
  ·rw [zH e] at ho;exact ho
 refine ⟨fun j c hj=>?_,fun j c b h1 h2=>g.own' j c b h1 (hown h2),fun j j' c1 c2 b h1 h2 h3 h4=>g.uniq' j j' c1 c2 b h1 h2 (hown h3) (hown h4),g.fsz,g.fext,g.fmono,g.frame,g.gsz,g.size,g.tame⟩
 obtain ⟨blk,h1,h2⟩:=g.hr j c hj
 by_cases e:j=id
 ·subst e
  rw [h] at h1;cases h1
  obtain ⟨⟨h3,h4⟩,b',h5,⟨l,h6,h7⟩,h8⟩:=h2
  exact ⟨_,zJ,⟨by rw [hs.1];exact h3,by rw [hs.2];exact h4⟩,b',h5,⟨l,h6,hr c l hj h7⟩,h8⟩
 ·exact ⟨blk,by rw [zH e];exact h1,h2⟩
theorem mpOf_vars {H H':Heap} {t:Ty} {a b:AV} (h:mpOf H t a=some (b,H')) {id:Nat} {cs cs':List AV} (h1:H id=some (.vars cs)) (h2:H' id=some (.vars cs')):cs'=cs:=by
 unfold mpOf at h
 split at h
 ·cases h;rw [h1] at h2;cases h2;rfl
 ·rename_i j p
  split at h
  ·split at h
   ·split at h
    ·cases h
     by_cases e:id=j
     ·subst e;rw [zJ] at h2;cases h2
     ·rw [zH e,h1] at h2;cases h2;rfl
    ·cases h
   ·cases h
  ·cases h
 ·cases h
theorem mpOf_rel {X:Cst} {F:Nat->Prop} {w:World} {β:Nat->Option Conc} {H H':Heap} (g:Good X F w β H) {t:Ty} {a b:AV} (h:mpOf H t a=some (b,H')) :
  (leafSh a=leafSh b/\a.csz=b.csz/\b.csz=1)/\∃ F',Good X F' w β H'/\Ext F w β F' w β/\∀ us,RelC F' w β a us->∃ v,us=[v]/\RelC F' w β b [v]:=by
 unfold mpOf at h
 split at h
 ·cases h
  refine ⟨⟨rfl,rfl,rfl⟩,F,g,.refl,fun us hu=>?_⟩
  cases hu
  exact ⟨_,rfl,.mpn _ _⟩
 ·rename_i j p
  split at h
  ·rename_i cs hp hj
   split at h
   ·rename_i l ht
    split at h
    ·rename_i x hx
     cases h
     refine ⟨⟨rfl,rfl,rfl⟩,?_⟩
     cases hc:β j with
     |none=>
      refine ⟨F,g.kill j,.refl,fun us hu=>?_⟩
      cases hu with
      |ptr _ _ c b o h1 h2 h3=>rw [hc] at h1;cases h1
     |some c=>
      obtain ⟨g',ex⟩:=g.give hc (blk:=.dead) rfl (fun _=>trivial)
      refine ⟨_,g',ex,fun us hu=>?_⟩
      cases hu with
      |ptr _ _ c' b o h1 h2 h3=>
       rw [hc] at h1;cases h1
       obtain ⟨blk,r1,r2⟩:=g.hr j c hc
       rw [hj] at r1;cases r1
       obtain ⟨⟨r3,r4⟩,b',r5,⟨cl,r6,r7⟩,r8⟩:=r2
       have hbb:b'=b:=by rw [h2] at r5;cases r5;rfl
       subst hbb
       obtain ⟨k1,k2⟩:=takeL_rel _ _ _ _ _ ht r7
       have hx':=packU_mono (H2:=H) (fun id b h=>by cases h) false t l _ hx
       obtain ⟨us',ws,e1,e2,e3,_⟩:=packU_rep g false t l x [] _ hx' k2 (fun e=>by cases e)
       cases e3
       rw [List.append_nil] at e1
       have ho:o=p.off:=by
        unfold placeOf at h3
        rw [hp] at h3
        cases h3;rfl
       subst ho
       exact ⟨_,rfl,.mps t x b' p.off us' (.inr ⟨by rw [hj];rfl,.inl h2⟩) ⟨cl,r6,k1,e1.symm⟩ (rep_mono ex.f t x us' e2)⟩
    ·cases h
   ·cases h
  ·cases h
 ·cases h
theorem no_full {F:Nat->Prop} {w:World} {β:Nat->Option Conc} {k:Nat} (hc:β k=none):∀ {cs:List AV} {vs:List Value} {i:Nat},RelCs F w β cs vs->cs[i]?=some (.full k)->False
 | [],_,_,.nil,h=>by simp at h
 |_::_,_,0,.cons a' l us vs h1 h2 h3,h=>by
  simp only [List.getElem?_cons_zero,zS] at h
  subst h
  cases h1 with
  |full _ c t len q1 q2 q3=>rw [hc] at q1;cases q1
 |_::_,_,i+1,.cons a' l us vs h1 h2 h3,h=>by
  simp only [List.getElem?_cons_succ] at h
  exact no_full hc h3 h
theorem Good.move {X:Cst} {F:Nat->Prop} {w:World} {β:Nat->Option Conc} {H:Heap} (g:Good X F w β H) {n id i k:Nat} (hn:β n=none) {cs:List AV} (h:H id=some (.vars cs)) (hi:cs[i]?=some (.full k))
  {t:Ty} {xs:List t.D} (hk:H k=some (.row t xs false)) {c:Conc} (hc:β k=some c) (h1:id≠n) (h2:k≠n) :
  Good X F w (upd β n c) (((H.set k .dead).set id (.vars (cs.set i (.full n)))).set n (.row t xs false))/\Ext F w β F w (upd β n c):=by
 have hik:id≠k:=fun e=>by subst e;rw [h] at hk;cases hk
 have ex:Ext F w β F w (upd β n c):=⟨fun b h=>⟨h,rfl⟩,fun j c' h=>by rw [upd_ne (fun e=>by rw [e,hn] at h;cases h)];exact h⟩
 have hh:∀ j,(((H.set k .dead).set id (.vars (cs.set i (.full n)))).set n (.row t xs false)) j=if j=n then some (.row t xs false) else if j=id then some (.vars (cs.set i (.full n))) else if j=k then some .dead else H j:=fun j=>by
  by_cases e1:j=n
  ·subst e1;rw [zJ,if_pos rfl]
  ·rw [zH e1,if_neg e1]
   by_cases e2:j=id
   ·subst e2;rw [zJ,if_pos rfl]
   ·rw [zH e2,if_neg e2]
    by_cases e3:j=k
    ·subst e3;rw [zJ,if_pos rfl]
    ·rw [zH e3,if_neg e3]
 have ow:∀ {j c' b},upd β n c j=some c'->Owned w c' ((((H.set k .dead).set id (.vars (cs.set i (.full n)))).set n (.row t xs false)) j) b ->
   (j=n/\c'=c/\Owned w c (H k) b)\/(j≠n/\j≠k/\β j=some c'/\Owned w c' (H j) b):=fun {j c' b} hj ho=>by
  rw [hh] at ho
  by_cases e1:j=n
  ·subst e1
   rw [if_pos rfl] at ho
   rw [upd_self] at hj;cases hj
   exact .inl ⟨rfl,rfl,by rw [hk];exact ho⟩
  ·rw [if_neg e1] at ho
   rw [upd_ne e1] at hj
   by_cases e2:j=id
   ·subst e2
    rw [if_pos rfl] at ho
    refine .inr ⟨e1,hik,hj,?_⟩
    rw [h]
    exact ⟨rfl,ho.2.imp (fun h=>h) (fun h=>h.elim)⟩
   ·rw [if_neg e2] at ho
    by_cases e3:j=k
    ·subst e3;rw [if_pos rfl] at ho;cases ho.1
    ·rw [if_neg e3] at ho;exact .inr ⟨e1,e3,hj,ho⟩
 refine ⟨⟨fun j c' hj=>?_,fun j c' b h1' h2'=>?_,fun j j' c1 c2 b q1 q2 q3 q4=>?_,g.fsz,g.fext,g.fmono,g.frame,g.gsz,g.size,g.tame⟩,ex⟩
 ·rw [hh]
  by_cases e1:j=n
  ·subst e1
   rw [if_pos rfl]
   rw [upd_self] at hj;cases hj
   obtain ⟨blk,r1,r2⟩:=g.hr k c hc
   rw [hk] at r1;cases r1
   exact ⟨_,rfl,r2.mono ex (fun _ _=>rfl)⟩
  ·rw [if_neg e1]
   rw [upd_ne e1] at hj
   obtain ⟨blk,r1,r2⟩:=g.hr j c' hj
   by_cases e2:j=id
   ·subst e2
    rw [if_pos rfl]
    rw [h] at r1;cases r1
    obtain ⟨⟨h3,h4⟩,b',h5,⟨l,h6,h7⟩,h8⟩:=r2
    have hs:=set_leafSh' (a:=.full k) (b:=.full n) rfl rfl hi
    refine ⟨_,rfl,⟨by rw [hs.1];exact h3,by rw [hs.2];exact h4⟩,b',h5,⟨l,h6,rel_set (a:=.full k) rfl (fun us hu=>?_) (h7.mono ex) hi⟩,h8⟩
    cases hu with
    |full _ c2 t2 len q1 q2 q3=>
     rw [upd_ne h2,hc] at q1;cases q1
     exact ⟨_,rfl,.full n c t2 len upd_self q2 q3⟩
   ·rw [if_neg e2]
    by_cases e3:j=k
    ·subst e3;rw [if_pos rfl];exact ⟨_,rfl,trivial⟩
    ·rw [if_neg e3];exact ⟨blk,r1,r2.mono ex (fun _ _=>rfl)⟩
 ·rcases ow h1' h2' with ⟨_,e,h3⟩|⟨_,_,h3,h4⟩
  ·subst e;exact g.own' k c' b hc h3
  ·exact g.own' j c' b h3 h4
 ·rcases ow q1 q3 with ⟨e1,e2,h3⟩|⟨e1,e2,h3,h4⟩
  ·rcases ow q2 q4 with ⟨f1,f2,h5⟩|⟨f1,f2,h5,h6⟩
   ·rw [e1,f1]
   ·exact (f2 (g.uniq' k j' c c2 b hc h5 h3 h6).symm).elim
  ·rcases ow q2 q4 with ⟨f1,f2,h5⟩|⟨f1,f2,h5,h6⟩
   ·exact (e2 (g.uniq' j k c1 c b h3 hc h4 h5)).elim
   ·exact g.uniq' j j' c1 c2 b h3 h5 h4 h6
theorem Good.moveN {X:Cst} {F:Nat->Prop} {w:World} {β:Nat->Option Conc} {H:Heap} (g:Good X F w β H) {n id i k:Nat} (hn:β n=none) {cs:List AV} (h:H id=some (.vars cs)) (hi:cs[i]?=some (.full k))
  {t:Ty} {xs:List t.D} (hc:β k=none) (h1:id≠n) (h2:k≠n) :
  Good X F w β (((H.set k .dead).set id (.vars (cs.set i (.full n)))).set n (.row t xs false)):=by
 have hid:β id=none:=by
  cases e:β id with
  |none=>rfl
  |some c=>
   obtain ⟨blk,r1,r2⟩:=g.hr id c e
   rw [h] at r1;cases r1
   obtain ⟨_,b',h5,⟨l,h6,h7⟩,h8⟩:=r2
   exact (no_full hc h7 hi).elim
 have hne:∀ {j c},β j=some c->(((H.set k .dead).set id (.vars (cs.set i (.full n)))).set n (.row t xs false)) j=H j:=fun {j c} hj=>by
  rw [zH (fun e=>by rw [e,hn] at hj;cases hj),zH (fun e=>by rw [e,hid] at hj;cases hj),zH (fun e=>by rw [e,hc] at hj;cases hj)]
 exact ⟨fun j c hj=>by rw [hne hj];exact g.hr j c hj,fun j c b q1 q2=>g.own' j c b q1 (by rw [hne q1] at q2;exact q2),fun j j' c1 c2 b q1 q2 q3 q4=>g.uniq' j j' c1 c2 b q1 q2 (by rw [hne q1] at q3;exact q3) (by rw [hne q2] at q4;exact q4),
  g.fsz,g.fext,g.fmono,g.frame,g.gsz,g.size,g.tame⟩
theorem prom_rel {p:Prom} {s:St} {F w β} {a:Act} (r:StRel X N pin F0 w0 β0 F w β s.env s.heap s.next a):∃ F' β',StRel X N pin F0 w0 β0 F' w β' (p.go s).env (p.go s).heap (p.go s).next a:=by
 have hid:β s.next=none:=by
  cases hc:β s.next with
  |none=>rfl
  |some c=>have:=r.dom s.next (by rw [hc];intro e;cases e);omega
 have pins:∀ (t:Ty) j,j<pin->upd β s.next ⟨none,0,.row t 0,none⟩ j=β0 j:=fun t j hj=>by
  rw [upd_ne (fun e=>by have:=r.pinle;omega)];exact r.pins j hj
 have dom:∀ (t:Ty) j,upd β s.next ⟨none,0,.row t 0,none⟩ j≠none->j<s.next+1:=fun t j hj=>by
  by_cases e:j=s.next
  ·omega
  ·rw [upd_ne e] at hj;have:=r.dom j hj;omega
 cases p with
 |slot dp t k=>
  simp only [Prom.go,promSlot]
  split
  ·rename_i hk
   obtain ⟨g',ex,rv⟩:=r.good.emptyB hid t none (emptyBlk_or dp t)
   refine ⟨F,_,g',dom t,fun j=>?_,r.defers,r.size,r.ext,pins t,by have:=r.pinle;show pin<=s.next+1;omega⟩
   simp only [put]
   split
   ·rename_i e
    subst e
    have:=r.env j
    rw [hk] at this
    rw [this.nilS_inv]
    exact rv
   ·exact (r.env j).mono ex
  ·exact ⟨F,β,r⟩
 |part dp t k i=>
  simp only [Prom.go,promPart]
  split
  ·rename_i xs hk
   split
   ·rename_i hi
    obtain ⟨g',ex,rv⟩:=r.good.emptyB hid t none (emptyBlk_or dp t)
    have hrc:RelC F w (upd β s.next ⟨none,0,.row t 0,none⟩) (.full s.next) [.slice none 0 0]:=.full _ _ _ _ upd_self rfl (Nat.le_refl _)
    refine ⟨F,_,g',dom t,fun j=>?_,r.defers,r.size,r.ext,pins t,by have:=r.pinle;show pin<=s.next+1;omega⟩
    simp only [put]
    split
    ·rename_i e
     subst e
     have:=(r.env j).mono ex
     rw [hk] at this
     obtain ⟨vs,e2,h3⟩:=this.agg_inv
     rw [e2]
     exact .many _ _ rfl (.agg _ _ (relCs_set hrc h3 hi))
    ·exact (r.env j).mono ex
   ·exact ⟨F,β,r⟩
  ·exact ⟨F,β,r⟩
 |leaf dp t id i=>
  simp only [Prom.go,promLeaf]
  split
  ·rename_i cs hcs
   split
   ·rename_i hi
    split
    ·exact ⟨F,β,r⟩
    ·rename_i hne
     obtain ⟨g',ex,rv⟩:=r.good.emptyB hid t none (emptyBlk_or dp t)
     have hrc:RelC F w (upd β s.next ⟨none,0,.row t 0,none⟩) (.full s.next) [.slice none 0 0]:=.full _ _ _ _ upd_self rfl (Nat.le_refl _)
     have hheap:∀ j,((s.heap.set id (.vars (cs.set i (.full s.next)))).set s.next (emptyBlk dp t)) j=if j=id then some (.vars (cs.set i (.full s.next))) else (s.heap.set s.next (emptyBlk dp t)) j:=fun j=>by
      by_cases e:j=id
      ·subst e;rw [if_pos rfl,zH hne,zJ]
      ·rw [if_neg e]
       by_cases e2:j=s.next
       ·subst e2;rw [zJ,zJ]
       ·rw [zH e2,zH e2,zH e]
     have hown:∀ {j c b},Owned w c (((s.heap.set id (.vars (cs.set i (.full s.next)))).set s.next (emptyBlk dp t)) j) b->Owned w c ((s.heap.set s.next (emptyBlk dp t)) j) b:=fun {j c b} ho=>by
      rw [hheap] at ho
      split at ho
      ·rename_i e
       subst e
       rw [zH hne,hcs]
       exact ⟨rfl,ho.2.imp (fun h=>h) (fun h=>h.elim)⟩
      ·exact ho
     refine ⟨F,_,⟨fun j c h=>?_,fun j c b h1 h2=>g'.own' j c b h1 (hown h2),fun j j' c1 c2 b h1 h2 h3 h4=>g'.uniq' j j' c1 c2 b h1 h2 (hown h3) (hown h4),
      g'.fsz,g'.fext,g'.fmono,g'.frame,g'.gsz,g'.size,g'.tame⟩,dom t,r.env.mono ex,r.defers,r.size,r.ext,pins t,by have:=r.pinle;show pin<=s.next+1;omega⟩
     obtain ⟨blk,h1,h2⟩:=g'.hr j c h
     show ∃ blk,((s.heap.set id (.vars (cs.set i (.full s.next)))).set s.next (emptyBlk dp t)) j=some blk/\_
     rw [hheap]
     by_cases e:j=id
     ·subst e
      rw [if_pos rfl]
      rw [zH hne,hcs] at h1
      cases h1
      obtain ⟨⟨h3,h4⟩,b,h5,⟨l,h6,h7⟩,h8⟩:=h2
      obtain ⟨h9,h10⟩:=set_leafSh (n:=s.next) hi
      exact ⟨_,rfl,⟨by rw [h9];exact h3,by rw [h10];exact h4⟩,b,h5,⟨l,h6,relCs_set hrc h7 hi⟩,h8⟩
     ·rw [if_neg e];exact ⟨blk,h1,h2⟩
   ·exact ⟨F,β,r⟩
  ·exact ⟨F,β,r⟩
 |mp t id i=>
  simp only [Prom.go,promMp]
  split
  ·rename_i cs hcs
   split
   ·rename_i b hb
    split
    ·rename_i v h' hm
     split
     ·rename_i cs' hcs'
      obtain ⟨⟨q1,q2,q3⟩,F',g',ex,hr⟩:=mpOf_rel r.good hm
      have hcc:cs'=cs:=mpOf_vars hm hcs hcs'
      subst hcc
      refine ⟨F',β,g'.leaf hcs' (set_leafSh' q1 q2 hb) (fun c l hc hl=>rel_set q3 hr hl hb),r.dom,r.env.mono ex,r.defers,r.size,fun b hb=>?_,r.pins,r.pinle⟩
      ·obtain ⟨b1,b2⟩:=r.ext b hb
       exact ⟨(ex.f b b1).1,b2⟩
     ·exact ⟨F,β,r⟩
    ·exact ⟨F,β,r⟩
   ·exact ⟨F,β,r⟩
  ·exact ⟨F,β,r⟩
 |move id i=>
  simp only [Prom.go,promMove]
  split
  ·rename_i cs hcs
   split
   ·rename_i k hk
    split
    ·rename_i t xs hj
     split
     ·exact ⟨F,β,r⟩
     ·rename_i hne
      cases hc:β k with
      |none=>
       exact ⟨F,_,(r.good.moveN hid hcs hk hc (fun e=>hne (.inl e)) (fun e=>hne (.inr e))),fun j hj=>(by have:=r.dom j hj;show j<s.next+1;omega),r.env,r.defers,r.size,r.ext,r.pins,by have:=r.pinle;show pin<=s.next+1;omega⟩
      |some c=>
       obtain ⟨g',ex⟩:=r.good.move hid hcs hk hj hc (fun e=>hne (.inl e)) (fun e=>hne (.inr e))
       refine ⟨F,_,g',fun j hj=>?_,r.env.mono ex,r.defers,r.size,r.ext,fun j hj=>?_,by have:=r.pinle;show pin<=s.next+1;omega⟩
       ·show j<s.next+1
        by_cases e:j=s.next
        ·omega
        ·rw [upd_ne e] at hj;have:=r.dom j hj;omega
       ·rw [upd_ne (fun e=>by have:=r.pinle;omega)];exact r.pins j hj
    ·exact ⟨F,β,r⟩
   ·exact ⟨F,β,r⟩
  ·exact ⟨F,β,r⟩
theorem promAll_rel:∀ {ps:List Prom} {s:St} {F w β} {a:Act},StRel X N pin F0 w0 β0 F w β s.env s.heap s.next a->∃ F' β',StRel X N pin F0 w0 β0 F' w β' (promAll ps s).env (promAll ps s).heap (promAll ps s).next a
 | [],s,F,w,β,a,r=>⟨F,β,r⟩
 |p::ps,s,F,w,β,a,r=>by
  obtain ⟨F',β',r'⟩:=prom_rel (p:=p) r
  exact promAll_rel (s:=p.go s) r'
theorem Ready.rel {s s1:St} (h:Ready pin s s1):∀ {a:Act} {w:World},Rel X N pin F0 w0 β0 s.env s.heap s.next a w->Rel X N pin F0 w0 β0 s1.env s1.heap s1.next a w:=by
 induction h with
 |refl=>exact fun r=>r
 |clean s s1 s2 ks h _ ih=>
  intro a w ⟨F,β,r⟩
  obtain ⟨β',r'⟩:=clean_rel r h
  exact ih ⟨F,β',r'⟩
 |prom s ps s2 _ ih=>
  intro a w ⟨F,β,r⟩
  obtain ⟨F',β',r'⟩:=promAll_rel (ps:=ps) r
  exact ih ⟨F',β',r'⟩
theorem rel_clean {s s1:St} {ks:List Nat} (h:clean pin ks s=some s1) {a:Act} {w:World} (r:Rel X N pin F0 w0 β0 s.env s.heap s.next a w):Rel X N pin F0 w0 β0 s1.env s1.heap s1.next a w:=by
 obtain ⟨F,β,r⟩:=r
 obtain ⟨β',r'⟩:=clean_rel r h
 exact ⟨F,β',r'⟩
variable {cx:TCx}
theorem rounds_sound {x:Code} {body:St->Tr (Exit×St)} {e:Exit} {s':St} (hb:∀ s e s',(body s).run=some (e,s')->∀ a w,Rel X N pin F0 w0 β0 s.env s.heap s.next a w->x.wp cx.P (Post X N pin F0 w0 β0 e s') a w)
  {n:Nat} {s:St} (h:LoopN pin body e s' n s):∀ a w,Rel X N pin F0 w0 β0 s.env s.heap s.next a w->(Code.loop x).wp cx.P (Post X N pin F0 w0 β0 e s') a w:=by
 intro a w r
 let J:Act->World->Nat->Prop:=fun a w n=>∃ s,LoopN pin body e s' n s/\Rel X N pin F0 w0 β0 s.env s.heap s.next a w
 let μ:Act->World->Nat:=fun a w=>leastOf (J a w)
 have hμ:∀ a w,(∃ n,J a w n)->J a w (μ a w)/\∀ m,J a w m->μ a w<=m:=fun a w h=>leastOf_spec h
 refine wp_loop (fun a w=>∃ n,J a w n) μ ⟨n,s,h,r⟩ fun a w hI=>?_
 obtain ⟨⟨s1,h1,r1⟩,hmin⟩:=hμ a w hI
 cases hm:μ a w with
 |zero=>rw [hm] at h1;exact h1.elim
 |succ k=>
  rw [hm] at h1
  obtain ⟨e2,s2,h2,h3⟩:=h1
  refine wp_mono (hb s1 e2 s2 h2 a w r1) fun e' a' w' hp=>?_
  obtain ⟨rfl,r'⟩:=hp
  rcases h3 with ⟨rfl,ks,s3,h4,h5⟩|⟨hne,rfl,ks,h4⟩
  ·have hJ:J a' w' k:=⟨s3,h5,rel_clean h4 r'⟩
   have:=(hμ a' w' ⟨k,hJ⟩).2 k hJ
   exact ⟨⟨k,hJ⟩,by omega⟩
  ·have fin:=rel_clean h4 r'
   cases e' with
   |normal=>exact absurd rfl hne
   |_=>exact ⟨rfl,fin⟩
theorem join_sound {c:Code} {t:Tr (Exit×St)} {an:An} {fv:List (Nat×AV)} {s0:St} {e:Exit} {s':St} (hfv:FV fv s0) (hk:∀ e s1,t.run=some (e,s1)->∀ p∈fv,KeepsD p.1 s0 s1) (h:(joinT pin an fv t).run=some (e,s'))
  {a:Act} {w:World} (hb:∀ e s1,t.run=some (e,s1)->c.wp cx.P (Post X N pin F0 w0 β0 e s1) a w):c.wp cx.P (Post X N pin F0 w0 β0 e s') a w:=by
 obtain ⟨s1,h1,h2⟩:=joinT_ok hfv hk h
 rcases h2 with rfl|⟨ks,h2⟩
 ·exact hb _ _ h1
 ·refine wp_mono (hb _ _ h1) fun e' a' w' hp=>?_
  obtain ⟨rfl,r'⟩:=hp
  exact ⟨rfl,rel_clean h2 r'⟩
theorem tCode_sound (hrun:RunSound cx.P cx.cx.run) (hent:RunEnters cx.P cx.cx.run):∀ (c:Code) (an:An) (s:St) (e:Exit) (s':St),(tCode cx pin c an s).run=some (e,s')->dstOK N c=true ->
  ∀ a w,Rel X N pin F0 w0 β0 s.env s.heap s.next a w->c.wp cx.P (Post X N pin F0 w0 β0 e s') a w
 |.skip,an,s,e,s',h,hd,a,w,r=>by
  simp only [tCode,Tr.run,zS,zP] at h
  obtain ⟨rfl,rfl⟩:=h
  exact wp_skip ⟨rfl,r⟩
 |.region id ops true,an,s,e,s',h,hd,a,w,r=>by
  have hN:∀ o∈ops.toList,∀ k,o.dst=some k->k<N:=fun o ho k hk=>by
   simp only [dstOK] at hd
   have:=List.all_eq_true.1 hd o ho
   rw [hk] at this
   simpa using this
  have hkeep:=fun (k:Nat) (hk:asg (.region id ops true) k=false) (e:Exit) (s1:St)=>tCode_keeps (cx:=cx) (pin:=pin) (.region id ops true) k hk .n s e s1
  simp only [tCode] at h hkeep
  refine join_sound (fixVals_FV _ _ _) (fun e s1 h p hp=>hkeep p.1 (fixVals_asg hp) e s1 h) h ?_
  intro e s1 h
  obtain ⟨⟨env,h',fl⟩,h1,h2⟩:=Tr.run_some h
  simp only at h2
  split at h2
  ·rename_i hdr
   simp only [Tr.run,zS,zP] at h2
   obtain ⟨rfl,rfl⟩:=h2
   obtain ⟨F,β,r⟩:=r
   exact draw_region (cx:=cx.cx) hrun hent (tOpsF_ok h1) hdr hN r fun a w h=>⟨rfl,h⟩
  ·cases h2
 |.region id ops false,an,s,e,s',h,hd,a,w,r=>by
  have hN:∀ o∈ops.toList,∀ k,o.dst=some k->k<N:=fun o ho k hk=>by
   simp only [dstOK] at hd
   have:=List.all_eq_true.1 hd o ho
   rw [hk] at this
   simpa using this
  have hkeep:=fun (k:Nat) (hk:asg (.region id ops false) k=false) (e:Exit) (s1:St)=>tCode_keeps (cx:=cx) (pin:=pin) (.region id ops false) k hk .n s e s1
  simp only [tCode] at h hkeep
  refine join_sound (fixVals_FV _ _ _) (fun e s1 h p hp=>hkeep p.1 (fixVals_asg hp) e s1 h) h ?_
  intro e s1 h
  obtain ⟨q,h1,h2⟩:=Tr.run_some h
  simp only [Tr.run,zS,zP] at h2
  obtain ⟨rfl,rfl⟩:=h2
  refine wp_region ?_
  have:=exOps_sound (cx:=cx.cx) (Q:=Post X N pin F0 w0 β0 .normal ⟨q.1,q.2,s.next+ops.size*W⟩) hrun hent hN (base:=s.next) (env':=q.1) (h':=q.2) (fun a w r=>⟨rfl,r⟩) ops.toList 0 s.env s.heap (Nat.zero_le _) (fun i=>by simp) (tOps_ok _ _ _ _ _ FactsOK.nil h1) a w (by simpa using r)
  rw [List.range_eq_range']
  have hp:cx.cx.P=cx.P:=rfl
  rw [hp] at this
  simpa using this
 |.seq x y,an,s,e,s',h,hd,a,w,r=>by
  simp only [tCode] at h
  simp only [dstOK,Bool.and_eq_true] at hd
  obtain ⟨⟨e1,s1⟩,h1,h2⟩:=Tr.run_some h
  refine wp_seq (wp_mono (tCode_sound hrun hent x an.l s e1 s1 h1 hd.1 a w r) fun e' a' w' hp=>?_)
  obtain ⟨rfl,r'⟩:=hp
  cases e' with
  |normal=>exact tCode_sound hrun hent y an.r s1 e s' h2 hd.2 a' w' r'
  |_=>
   simp only [Tr.run,zS,zP] at h2
   obtain ⟨rfl,rfl⟩:=h2
   exact ⟨rfl,r'⟩
 |.cond c x y,an,s,e,s',h,hd,a,w,r=>by
  simp only [dstOK,Bool.and_eq_true] at hd
  have key:∀ k,asg (.cond c x y) k=false->∀ b e s1,(Tr.br b (tCode cx pin x an.l s) (tCode cx pin y an.r s)).run=some (e,s1)->KeepsD k s s1:=by
   intro k hk b e s1 h
   simp only [asg,Bool.or_eq_false_iff] at hk
   cases b with
   |true=>simp only [Tr.run,zC] at h;exact tCode_keeps x k hk.1 _ _ _ _ h
   |false=>simp only [Tr.run,zc] at h;exact tCode_keeps y k hk.2 _ _ _ _ h
  have go:∀ b e s',evalO s.env c=.dat .bool b->(Tr.br b (tCode cx pin x an.l s) (tCode cx pin y an.r s)).run=some (e,s')->(Code.cond c x y).wp cx.P (Post X N pin F0 w0 β0 e s') a w:=by
   intro b e s' hb h
   obtain ⟨F,β,r'⟩:=r
   have hv:=r'.env.eval c
   rw [hb] at hv
   cases b with
   |true=>simp only [Tr.run,zC] at h;exact wp_cond_true hv.bool_inv (tCode_sound hrun hent x an.l s e s' h hd.1 a w ⟨F,β,r'⟩)
   |false=>simp only [Tr.run,zc] at h;exact wp_cond_false hv.bool_inv (tCode_sound hrun hent y an.r s e s' h hd.2 a w ⟨F,β,r'⟩)
  simp only [tCode] at h
  split at h
  ·split at h
   ·exact go true e s' rfl h
   ·exact go false e s' rfl h
  ·split at h
   ·rename_i b hb
    exact join_sound (fixVals_FV _ _ _) (fun e s1 h p hp=>key p.1 (fixVals_asg hp) _ e s1 h) h (fun e s1 h=>go b e s1 hb h)
   ·cases h
 |.block id x,an,s,e,s',h,hd,a,w,r=>by
  simp only [dstOK] at hd
  have hkeep:=fun (k:Nat) (hk:asg (.block id x) k=false) (e:Exit) (s1:St)=>tCode_keeps (cx:=cx) (pin:=pin) (.block id x) k hk (.t an.l .n) s e s1
  simp only [tCode] at h hkeep
  refine join_sound (fixVals_FV _ _ _) (fun e s1 h p hp=>hkeep p.1 (fixVals_asg hp) e s1 h) h ?_
  intro e s1 h
  obtain ⟨⟨e1,s2⟩,h1,h2⟩:=Tr.run_some h
  simp only [Tr.run,zS,zP] at h2
  obtain ⟨rfl,rfl⟩:=h2
  refine wp_block (wp_mono (tCode_sound hrun hent x an.l s e1 s2 h1 hd a w r) fun e' a' w' hp=>?_)
  obtain ⟨rfl,r'⟩:=hp
  cases e' with
  |exit j=>
   simp only [Exit.inBlock,unblockE]
   split
   ·exact ⟨rfl,r'⟩
   ·exact ⟨rfl,r'⟩
  |_=>exact ⟨rfl,r'⟩
 |.loop x,an,s,e,s',h,hd,a,w,r=>by
  simp only [tCode] at h
  simp only [dstOK] at hd
  obtain ⟨s1,n,h1,h2⟩:=loopT_ok (fixVals_FV _ _ _) (fun p hp q hq=>fixVals_det hp hq)
   (fun s1 e1 s2 h p hp=>tCode_keeps x p.1 (by have:=fixVals_asg hp;simpa only [asg] using this) _ _ _ _ h) h
  exact rounds_sound (fun s e s' h a w r=>tCode_sound hrun hent x an.l s e s' h hd a w r) h2 a w (h1.rel r)
 |.exit id,an,s,e,s',h,hd,a,w,r=>by
  simp only [tCode,Tr.run,zS,zP] at h
  obtain ⟨rfl,rfl⟩:=h
  exact wp_exit ⟨rfl,r⟩
 |.ret,an,s,e,s',h,hd,a,w,r=>by
  simp only [tCode,Tr.run,zS,zP] at h
  obtain ⟨rfl,rfl⟩:=h
  exact wp_ret ⟨rfl,r⟩
 |.goto l,an,s,e,s',h,hd,a,w,r=>by
  simp only [tCode,Tr.run,zS,zP] at h
  obtain ⟨rfl,rfl⟩:=h
  exact wp_goto ⟨rfl,r⟩
 |.label l,an,s,e,s',h,hd,a,w,r=>by
  simp only [tCode,Tr.run,zS,zP] at h
  obtain ⟨rfl,rfl⟩:=h
  exact wp_label ⟨rfl,r⟩
 |.scope x,an,s,e,s',h,hd,a,w,r=>by
  simp only [tCode] at h
  simp only [dstOK] at hd
  obtain ⟨⟨e1,s1⟩,h1,h2⟩:=Tr.run_some h
  refine wp_scope_straight (wp_mono (tCode_sound hrun hent x an.l s e1 s1 h1 hd a w r) fun e' a' w' hp=>?_)
  obtain ⟨rfl,r'⟩:=hp
  cases e' with
  |goto l=>cases h2
  |_=>
   simp only [isGoto,Tr.run,zS,zP] at h2
   obtain ⟨rfl,rfl⟩:=h2
   exact ⟨rfl,r'⟩
 |.rangeFunc ..,an,s,e,s',h,hd,a,w,r=>by simp only [tCode] at h;cases h
 |.refuse ..,an,s,e,s',h,hd,a,w,r=>by simp only [tCode] at h;cases h
theorem tG_run {l:Nat} {t:Tr (Exit×St)} {e:Exit} {s':St} (h:(tG l t).run=some (e,s')):∃ e0,t.run=some (e0,s')/\swapG l e0=some e:=by
 unfold tG at h
 obtain ⟨⟨e0,s1⟩,h1,h2⟩:=Tr.run_some h
 simp only at h2
 split at h2
 ·rename_i e1 he
  simp only [Tr.run,zS,zP] at h2
  obtain ⟨rfl,rfl⟩:=h2
  exact ⟨e0,h1,he⟩
 ·cases h2
theorem tBody_sound (hrun:RunSound cx.P cx.cx.run) (hent:RunEnters cx.P cx.cx.run):∀ (c:Code) (an:An) (s:St) (e:Exit) (s':St) (h:(tBody cx pin c an s).run=some (e,s')) (hd:dstOK N c=true),
  ∀ a w,Rel X N pin F0 w0 β0 s.env s.heap s.next a w->c.wp cx.P (Post X N pin F0 w0 β0 e s') a w
 |.scope x,an,s,e,s',h,hd=>by
  simp only [tBody] at h
  split at h
  ·rename_i l rest hg
   have hf:=goIn_some hg
   simp only at hf
   simp only [dstOK] at hd
   have hdr:=findLabel_dst hf hd
   intro a w r
   obtain ⟨⟨e1,s1⟩,h1,h2⟩:=Tr.run_some h
   obtain ⟨e0,h0,hsw⟩:=tG_run h1
   have first:=tCode_sound hrun hent x an.l s e0 s1 h0 hd a w r
   simp only at h2
   cases hn:isNorm e1 with
   |false=>
    rw [hn] at h2
    simp only [Tr.run,zS,zP] at h2
    obtain ⟨rfl,rfl⟩:=h2
    obtain ⟨rfl,rfl⟩:=swapG_other hsw (by rintro rfl;cases hn)
    refine wp_scope_straight (wp_mono first fun e' a' w' hp=>?_)
    obtain ⟨rfl,r'⟩:=hp
    exact ⟨rfl,r'⟩
   |true=>
    have e1n:e1=.normal:=by cases e1<;>first|rfl|cases hn
    subst e1n
    obtain rfl:=swapG_norm hsw
    rw [hn] at h2
    simp only at h2
    obtain ⟨s2,n,h3,h4⟩:=loopT_ok (fixVals_FV _ _ _) (fun p hp q hq=>fixVals_det hp hq)
     (fun s1 e1 s2 h p hp=>by
      obtain ⟨e0,h0,_⟩:=tG_run h
      exact tCode_keeps rest p.1 (by have:=fixVals_asg hp;simpa only [asg] using this) _ _ _ _ h0) h2
    let body:St->Tr (Exit×St):=fun s=>tG l (tCode cx pin rest an.r.l s)
    let J:Act->World->Nat->Prop:=fun a w n=>∃ s,LoopN pin body e s' n s/\Rel X N pin F0 w0 β0 s.env s.heap s.next a w
    let μ:Act->World->Nat:=fun a w=>leastOf (J a w)
    have hμ:∀ a w,(∃ n,J a w n)->J a w (μ a w)/\∀ m,J a w m->μ a w<=m:=fun a w h=>leastOf_spec h
    refine wp_scope_jumps l (fun a w=>∃ n,J a w n) μ hf ?_ ?_
    ·refine wp_mono first fun e' a' w' hp=>?_
     obtain ⟨rfl,r'⟩:=hp
     exact ⟨rfl,n,s2,h4,h3.rel r'⟩
    ·intro a w hI
     obtain ⟨⟨s3,h5,r3⟩,hmin⟩:=hμ a w hI
     cases hm:μ a w with
     |zero=>rw [hm] at h5;exact h5.elim
     |succ k=>
      rw [hm] at h5
      obtain ⟨e2,s4,h6,h7⟩:=h5
      obtain ⟨e3,h8,hsw2⟩:=tG_run h6
      refine wp_mono (tCode_sound hrun hent rest an.r.l s3 e3 s4 h8 hdr a w r3) fun e' a' w' hp=>?_
      obtain ⟨rfl,r'⟩:=hp
      rcases h7 with ⟨rfl,ks,s5,h9,h10⟩|⟨hne,rfl,ks,h9⟩
      ·obtain rfl:=swapG_norm hsw2
       have hJ:J a' w' k:=⟨s5,h10,rel_clean h9 r'⟩
       have:=(hμ a' w' ⟨k,hJ⟩).2 k hJ
       exact ⟨rfl,⟨k,hJ⟩,by omega⟩
      ·obtain ⟨rfl,rfl⟩:=swapG_other hsw2 hne
       exact ⟨rfl,rel_clean h9 r'⟩
  ·exact tCode_sound hrun hent _ an s e s' h hd
 |.seq x y,an,s,e,s',h,hd=>by
  simp only [tBody] at h
  simp only [dstOK,Bool.and_eq_true] at hd
  intro a w r
  obtain ⟨⟨e1,s1⟩,h1,h2⟩:=Tr.run_some h
  refine wp_seq (wp_mono (tCode_sound hrun hent x an.l s e1 s1 h1 hd.1 a w r) fun e' a' w' hp=>?_)
  obtain ⟨rfl,r'⟩:=hp
  cases e' with
  |normal=>exact tBody_sound hrun hent y an.r s1 e s' h2 hd.2 a' w' r'
  |_=>
   simp only [Tr.run,zS,zP] at h2
   obtain ⟨rfl,rfl⟩:=h2
   exact ⟨rfl,r'⟩
 |.skip,an,s,e,s',h,hd=>tCode_sound hrun hent _ an s e s' h hd
 |.region ..,an,s,e,s',h,hd=>tCode_sound hrun hent _ an s e s' h hd
 |.cond ..,an,s,e,s',h,hd=>tCode_sound hrun hent _ an s e s' h hd
 |.block ..,an,s,e,s',h,hd=>tCode_sound hrun hent _ an s e s' h hd
 |.loop ..,an,s,e,s',h,hd=>tCode_sound hrun hent _ an s e s' h hd
 |.exit ..,an,s,e,s',h,hd=>tCode_sound hrun hent _ an s e s' h hd
 |.ret,an,s,e,s',h,hd=>tCode_sound hrun hent _ an s e s' h hd
 |.goto ..,an,s,e,s',h,hd=>tCode_sound hrun hent _ an s e s' h hd
 |.label ..,an,s,e,s',h,hd=>tCode_sound hrun hent _ an s e s' h hd
 |.rangeFunc ..,an,s,e,s',h,hd=>tCode_sound hrun hent _ an s e s' h hd
 |.refuse ..,an,s,e,s',h,hd=>tCode_sound hrun hent _ an s e s' h hd
end
end
section
def Enters (P:Program) (f:FuncId):Prop:=∃ fn,P.funcs[f]?=some fn/\fn.body.isNone=false/\(fn.name == "runtime.NumGoroutine")=false
def ToldSoundK (K:FuncId->Array Value->World->(Ending->World->Prop)->Prop) (P:Program) (f:FuncId) (t:Told):Prop:=
 Enters P f/\∀ d r,t.f d=some r->∀ (X:Cst) (F:Nat->Prop) (w:World) (β:Nat->Option Conc) (vals:List Value),
  Good X F w β (heapOf (BShL.to t.inh (csnd (ShL.T t.ina) (BShL.T t.inh) d)))->(∀ j,β j≠none->j<t.inh.length)->RelVs F w β (ShL.to t.ina (cfst (ShL.T t.ina) (BShL.T t.inh) d)) vals ->
  K f vals.toArray w fun e w'=>∃ v F' β',e=.returned v/\Good X F' w' β' (heapOf (BShL.to t.outh (csnd t.out.T (BShL.T t.outh) r)))/\Ext F w β F' w' β'/\(∀ j,j<t.inh.length->β' j=β j)/\(∀ j,β' j≠none->j<t.outh.length) /\
   RelV F' w' β' (t.out.to (cfst t.out.T (BShL.T t.outh) r)) v
@[reducible] def ToldSound (P:Program) (f:FuncId) (t:Told):Prop:=ToldSoundK (Calls P) P f t
def ToldsOK (P:Program) (T:FuncId->List Told):Prop:=∀ f,∀ t∈T f,ToldSound P f t
section
variable {F:Nat->Prop} {w:World} {β:Nat->Option Conc}
theorem cells_one {v:Value} (h:v.oneCell'=true):v.cells.toList=[v]:=by
 cases v<;>simp [Value.oneCell'] at h<;>rfl
theorem relV_cells {a:AV} {v:Value} (h:RelV F w β a v) (hv:isVal a=true):(isMany a=false->v.cells.toList=[v])/\(isMany a=true->v=.agg v.cells.toList.toArray):=by
 cases h with
 |one a v h1 h2=>exact ⟨fun _=>cells_one (h2.oneC v (by simp)),fun h=>by rw [h1] at h;cases h⟩
 |many a cs h1 h2=>exact ⟨fun h=>(by rw [h1] at h;cases h),fun _=>by simp [Value.cells]⟩
 |tup xs vs h=>cases hv
 |any v=>cases hv
theorem pack_isVal {H:Heap} {rows:Bool} {u:Ty} {a:AV} {x:u.D} (h:pack H rows u a=some x):isVal a=true:=by
 unfold pack at h
 split at h
 ·assumption
 ·cases h
theorem pack_rel {X H} (g:Good X F w β H) {rows:Bool} {u:Ty} {a:AV} {x:u.D} (h:pack H rows u a=some x) (hm:(isMany a == isMany (.dat u x))=true) {v:Value} (hr:RelV F w β a v) (hF:rows=true->RowsF F β H a.leaves):RelV F w β (.dat u x) v:=by
 obtain ⟨c1,c2⟩:=relV_cells hr (pack_isVal h)
 have hm:isMany a=isMany (.dat u x):=by simpa using hm
 have:=pack_rep g h hr hF
 exact RelV.ofDat this (fun h=>c2 (by rw [hm];exact h)) (fun h=>c1 (by rw [hm];exact h))
theorem sub_none (H:Heap):Sub (fun _=>none) H:=fun id b h=>by cases h
theorem convA_rel {X H} (g:Good X F w β H) {s:Sh} {a b:AV} (h:convA s a=some b) {v:Value} (hr:RelV F w β a v):RelV F w β b v:=by
 unfold convA at h
 split at h
 ·split at h
  ·cases h;exact hr
  ·obtain ⟨x,h1,h2⟩:=zB.1 h
   split at h2
   ·rename_i hm
    cases h2
    exact pack_rel g (pack_mono (sub_none H) h1) hm hr (fun e=>by cases e)
   ·cases h2
 ·cases h;exact hr
theorem convL_rel {X H} (g:Good X F w β H):∀ {ss:List Sh} {l l':List AV} {vs:List Value},convL ss l=some l'->RelVs F w β l vs->RelVs F w β l' vs
 | [],l,l',vs,h,hr=>by simp only [convL,zS] at h;subst h;exact hr
 |_::_,[],l',vs,h,hr=>by simp only [convL,zS] at h;subst h;exact hr
 |s::ss,a::l,l',vs,h,hr=>by
  simp only [convL] at h
  obtain ⟨b,h1,h⟩:=zB.1 h
  obtain ⟨m,h2,h3⟩:=zM.1 h
  subst h3
  cases hr with
  |cons _ _ v vs r1 r2=>exact .cons _ _ _ _ (convA_rel g h1 r1) (convL_rel g h2 r2)
theorem tryT_some:∀ {l:List Told} {args:List AV} {pin:Nat} {h:Heap} {r},(tryT l args pin h).run=some r->∃ t∈l,∃ d,t.meets args pin h=some d/\(t.tr d).run=some r
 | [],_,_,_,_,h=>by cases h
 |t::l,args,pin,h,r,e=>by
  simp only [tryT] at e
  split at e
  ·rename_i d hd;exact ⟨t,by simp,d,hd,e⟩
  ·obtain ⟨t',h1,h2⟩:=tryT_some e
   exact ⟨t',by simp [h1],h2⟩
end
theorem tryR_some:∀ {l:List Told} {args:List AV} {pin:Nat} {h:Heap} {r},(tryR l args pin h).run=some r->∃ t∈l,∃ d,t.meets args pin h=some d/\(t.trR d).run=some r
 | [],_,_,_,_,h=>by cases h
 |t::l,args,pin,h,r,e=>by
  simp only [tryR] at e
  split at e
  ·rename_i d hd;exact ⟨t,by simp,d,hd,e⟩
  ·obtain ⟨t',h1,h2⟩:=tryR_some e
   exact ⟨t',by simp [h1],h2⟩
theorem heapOf_range {pin:Nat} {h:Heap} {l:List (Option Blk)} (e:(List.range pin).map h=l) {j:Nat} (hj:j<pin):heapOf l j=h j:=by
 subst e
 unfold heapOf
 simp [hj]
theorem tRun_soundK {P:Program} {K:FuncId->Array Value->World->(Ending->World->Prop)->Prop} {T:FuncId->List Told} {ro:FuncId->Bool} (hT:∀ f,∀ t∈T f,ToldSoundK K P f t):RunSoundK K (fun f args pin h=>(tRun T ro f args pin h).run)/\RunEnters P (fun f args pin h=>(tRun T ro f args pin h).run):=by
 refine ⟨fun f args pin h r h1 n1 e X F w β vals g hp hv=>?_,fun f args pin h r e=>?_⟩
 ·unfold tRun at e
  dsimp only at e
  split at e
  ·obtain ⟨t,ht,d,hm,hr⟩:=tryR_some e
   unfold Told.meets at hm
   split at hm
   ·rename_i hpin
    obtain ⟨as,m1,hm⟩:=zB.1 hm
    obtain ⟨x,m2,hm⟩:=zB.1 hm
    obtain ⟨y,m3,m4⟩:=zM.1 hm
    subst m4
    unfold Told.trR at hr
    simp only [Tr.run] at hr
    obtain ⟨q,q1,q2⟩:=zB.1 hr
    split at q2
    ·rename_i hq
     simp only [zS,zP] at q2
     obtain ⟨rfl,rfl,rfl⟩:=q2
     have hs:=(hT f t ht).2 _ _ q1 X F w β vals
     rw [csnd_cmk] at hq
     rw [cfst_cmk,csnd_cmk] at hs
     have hto:=eqBs_eq _ _ hq
     have g':Good X F w β (heapOf (BShL.to t.inh y)):=g.congr fun id hid=>heapOf_range (BShL.of_to _ _ _ m3) (hp id hid)
     have:=hs g' (fun j hj=>by rw [←hpin];exact hp j hj) (by rw [←ShL.of_to _ _ _ m2];exact convL_rel g m1 hv)
     rw [hpin,csnd_cmk,←hto]
     exact this
    ·cases q2
   ·cases hm
  ·obtain ⟨t,ht,d,hm,hr⟩:=tryT_some e
   unfold Told.meets at hm
   split at hm
   ·rename_i hpin
    obtain ⟨as,m1,hm⟩:=zB.1 hm
    obtain ⟨x,m2,hm⟩:=zB.1 hm
    obtain ⟨y,m3,m4⟩:=zM.1 hm
    subst m4
    unfold Told.tr at hr
    simp only [Tr.run] at hr
    obtain ⟨q,q1,q2⟩:=zB.1 hr
    simp only [zS,zP] at q2
    obtain ⟨rfl,rfl,rfl⟩:=q2
    have hs:=(hT f t ht).2 _ _ q1 X F w β vals
    rw [cfst_cmk,csnd_cmk] at hs
    have g':Good X F w β (heapOf (BShL.to t.inh y)):=g.congr fun id hid=>heapOf_range (BShL.of_to _ _ _ m3) (hp id hid)
    have:=hs g' (fun j hj=>by rw [←hpin];exact hp j hj) (by rw [←ShL.of_to _ _ _ m2];exact convL_rel g m1 hv)
    rw [hpin]
    exact this
   ·cases hm
 ·unfold tRun at e
  dsimp only at e
  split at e
  ·obtain ⟨t,ht,d,hm,hr⟩:=tryR_some e
   exact (hT f t ht).1
  ·obtain ⟨t,ht,d,hm,hr⟩:=tryT_some e
   exact (hT f t ht).1
theorem tRun_sound {P:Program} {T:FuncId->List Told} {ro:FuncId->Bool} (hT:ToldsOK P T):RunSound P (fun f args pin h=>(tRun T ro f args pin h).run)/\RunEnters P (fun f args pin h=>(tRun T ro f args pin h).run):=tRun_soundK hT
theorem RelVs.length' {F:Nat->Prop} {w:World} {β:Nat->Option Conc}:∀ {l:List AV} {vs:List Value},RelVs F w β l vs->vs.length=l.length
 |_,_,.nil=>rfl
 |_,_,.cons a l v vs h1 h2=>by simp [RelVs.length' h2]
def oneV:List Value->Value
 | [v]=>v
 |vs=>.tuple vs.toArray
theorem oneOf_vals {F:Nat->Prop} {w:World} {β:Nat->Option Conc} {vs:List AV} {v:Value} (h:RelV F w β (oneOf vs) v):∃ vals,RelVs F w β vs vals/\v=oneV vals:=by
 match vs,h with
 | [],h=>obtain ⟨us,rfl,hu⟩:=h.tup_inv;cases hu;exact ⟨[],.nil,rfl⟩
 | [a],h=>exact ⟨[v],.cons _ _ _ _ h .nil,rfl⟩
 |a::b::l,h=>
  obtain ⟨us,rfl,hu⟩:=h.tup_inv
  refine ⟨us,hu,?_⟩
  cases hu with
  |cons _ _ u us h1 h2=>cases h2 with|cons _ _ u2 us h3 h4=>rfl
theorem oneOf_rel {F:Nat->Prop} {w:World} {β:Nat->Option Conc} {l:List AV} {vals:List Value} (h:RelVs F w β l vals):RelV F w β (oneOf l) (oneV vals):=by
 match l,vals,h with
 | [],_,.nil=>exact .tup [] [] .nil
 | [a],_,.cons _ _ v _ h1 .nil=>exact h1
 |a::b::l,_,.cons _ _ u _ h3 (.cons _ _ u' us h4 h5)=>exact .tup _ _ (.cons _ _ _ _ h3 (.cons _ _ _ _ h4 h5))
theorem relVs_map_range {F:Nat->Prop} {w:World} {β:Nat->Option Conc} (f:Nat->AV):∀ (vals:List Value) (a:Nat),(∀ k,k<vals.length->RelV F w β (f (a+k)) (vals.getD k undef))->RelVs F w β ((List.range' a vals.length).map f) vals
 | [],a,_=>.nil
 |v::vals,a,h=>by
  simp only [List.length_cons,List.range'_succ,List.map_cons]
  refine .cons _ _ _ _ (by simpa using h 0 (by simp)) (relVs_map_range f vals (a+1) fun k hk=>?_)
  have:=h (k+1) (by simpa using hk)
  rw [show a+1+k=a+(k+1) by omega]
  simpa using this
theorem relVs_range {F:Nat->Prop} {w:World} {β:Nat->Option Conc} {f:Nat->AV} {n:Nat} {vals:List Value} (hn:vals.length=n) (h:∀ k,k<n->RelV F w β (f k) (vals.getD k undef)):RelVs F w β ((List.range n).map f) vals:=by
 subst hn
 rw [List.range_eq_range']
 exact relVs_map_range f vals 0 fun k hk=>by simpa using h k hk
mutual
theorem finA_rel {X:Cst} {w:World} {β:Nat->Option Conc}:∀ (s:Sh) (a:AV) {F:Nat->Prop} {h:Heap} {a':AV} {h':Heap} {v:Value},finA h s a=some (a',h')->Good X F w β h->RelV F w β a v ->
  ∃ F',Good X F' w β h'/\Ext F w β F' w β/\RelV F' w β a' v
 |.dat u,a,F,h,a',h',v,e,g,hr=>by
  have gen:((pack (freezeL a.leaves (closeIds (idsL a.leaves) h)) true u a).bind fun x=>if isMany a == isMany (.dat u x) then some ((AV.dat u x),freezeL a.leaves (closeIds (idsL a.leaves) h)) else none)=some (a',h')->∃ F',Good X F' w β h'/\Ext F w β F' w β/\RelV F' w β a' v:=by
   intro e
   have g:=g.closeIds (idsL a.leaves)
   obtain ⟨x,h1,h2⟩:=zB.1 e
   split at h2
   ·rename_i hm
    cases h2
    obtain ⟨F',g',ex,rf⟩:=Good.freezeL a.leaves g
    exact ⟨F',g',ex,pack_rel g' h1 hm (hr.mono ex) (fun _=>rf)⟩
   ·cases h2
  cases a with
  |dat t x=>simp only [finA,zS,zP] at e;obtain ⟨rfl,rfl⟩:=e;exact ⟨F,g,.refl,hr⟩
  |_=>simp only [finA] at e;exact gen e
 |.tup ss,a,F,h,a',h',v,e,g,hr=>by
  cases a with
  |tup as=>
   simp only [finA] at e
   obtain ⟨q,h1,h2⟩:=zM.1 e
   obtain ⟨as',h1'⟩:=q
   simp only [zP] at h2
   obtain ⟨rfl,rfl⟩:=h2
   obtain ⟨vs,rfl,hvs⟩:=hr.tup_inv
   obtain ⟨F',g',ex,r'⟩:=finL_rel ss as h1 g hvs
   exact ⟨F',g',ex,.tup _ _ r'⟩
  |_=>simp only [finA,zS,zP] at e;obtain ⟨rfl,rfl⟩:=e;exact ⟨F,g,.refl,hr⟩
 |.nilS,a,F,h,a',h',v,e,g,hr=>by simp only [finA,zS,zP] at e;obtain ⟨rfl,rfl⟩:=e;exact ⟨F,g,.refl,hr⟩
 |.nilP,a,F,h,a',h',v,e,g,hr=>by simp only [finA,zS,zP] at e;obtain ⟨rfl,rfl⟩:=e;exact ⟨F,g,.refl,hr⟩
 |.nilF,a,F,h,a',h',v,e,g,hr=>by simp only [finA,zS,zP] at e;obtain ⟨rfl,rfl⟩:=e;exact ⟨F,g,.refl,hr⟩
 |.full _,a,F,h,a',h',v,e,g,hr=>by simp only [finA,zS,zP] at e;obtain ⟨rfl,rfl⟩:=e;exact ⟨F,g,.refl,hr⟩
 |.sub _ _,a,F,h,a',h',v,e,g,hr=>by simp only [finA,zS,zP] at e;obtain ⟨rfl,rfl⟩:=e;exact ⟨F,g,.refl,hr⟩
 |.ptr _ _ _,a,F,h,a',h',v,e,g,hr=>by simp only [finA,zS,zP] at e;obtain ⟨rfl,rfl⟩:=e;exact ⟨F,g,.refl,hr⟩
 |.fptr _,a,F,h,a',h',v,e,g,hr=>by simp only [finA,zS,zP] at e;obtain ⟨rfl,rfl⟩:=e;exact ⟨F,g,.refl,hr⟩
 |.mp _,a,F,h,a',h',v,e,g,hr=>by simp only [finA,zS,zP] at e;obtain ⟨rfl,rfl⟩:=e;exact ⟨F,g,.refl,hr⟩
 |.nz _,a,F,h,a',h',v,e,g,hr=>by simp only [finA,zS,zP] at e;obtain ⟨rfl,rfl⟩:=e;exact ⟨F,g,.refl,hr⟩
 |.fn _ _,a,F,h,a',h',v,e,g,hr=>by simp only [finA,zS,zP] at e;obtain ⟨rfl,rfl⟩:=e;exact ⟨F,g,.refl,hr⟩
 |.agg _,a,F,h,a',h',v,e,g,hr=>by simp only [finA,zS,zP] at e;obtain ⟨rfl,rfl⟩:=e;exact ⟨F,g,.refl,hr⟩
 |.any,a,F,h,a',h',v,e,g,hr=>by simp only [finA,zS,zP] at e;obtain ⟨rfl,rfl⟩:=e;exact ⟨F,g,.refl,hr⟩
 |.mref _,a,F,h,a',h',v,e,g,hr=>by simp only [finA,zS,zP] at e;obtain ⟨rfl,rfl⟩:=e;exact ⟨F,g,.refl,hr⟩
theorem finL_rel {X:Cst} {w:World} {β:Nat->Option Conc}:∀ (ss:List Sh) (l:List AV) {F:Nat->Prop} {h:Heap} {l':List AV} {h':Heap} {vs:List Value},finL h ss l=some (l',h')->Good X F w β h->RelVs F w β l vs ->
  ∃ F',Good X F' w β h'/\Ext F w β F' w β/\RelVs F' w β l' vs
 | [],l,F,h,l',h',vs,e,g,hr=>by simp only [finL,zS,zP] at e;obtain ⟨rfl,rfl⟩:=e;exact ⟨F,g,.refl,hr⟩
 |_::_,[],F,h,l',h',vs,e,g,hr=>by simp only [finL,zS,zP] at e;obtain ⟨rfl,rfl⟩:=e;exact ⟨F,g,.refl,hr⟩
 |s::ss,a::l,F,h,l',h',vs,e,g,hr=>by
  simp only [finL] at e
  obtain ⟨⟨a1,h1⟩,e1,e⟩:=zB.1 e
  obtain ⟨⟨l1,h2⟩,e2,e3⟩:=zM.1 e
  simp only [zP] at e3
  obtain ⟨rfl,rfl⟩:=e3
  cases hr with
  |cons _ _ v vs r1 r2=>
   obtain ⟨F1,g1,x1,q1⟩:=finA_rel s a e1 g r1
   obtain ⟨F2,g2,x2,q2⟩:=finL_rel ss l e2 g1 (r2.mono x1)
   exact ⟨F2,g2,x1.trans x2,.cons _ _ _ _ (q1.mono x2) q2⟩
end
theorem deadOut_good {X:Cst} {F:Nat->Prop} {w:World} {β:Nat->Option Conc}:∀ (l:List BSh) (j:Nat) {H:Heap},Good X F w β H->Good X F w β (deadOut l j H)
 | [],_,_,g=>g
 |.dead::l,j,_,g=>deadOut_good l (j+1) (g.kill j)
 |.row ..::l,j,_,g=>deadOut_good l (j+1) g
 |.deep ..::l,j,_,g=>deadOut_good l (j+1) g
 |.vars _::l,j,_,g=>deadOut_good l (j+1) g
 |.mapB ..::l,j,_,g=>deadOut_good l (j+1) g
theorem endT_ok {P:Program} {fn:Func} {out:Sh} {outh:List BSh} {pin N:Nat} {s:St} {r:Dof (comb out.T (BShL.T outh))} (he:endT P fn out outh pin s=some r) {X:Cst} {F F':Nat->Prop} {w w':World} {β β':Nat->Option Conc} {a':Act}
  (r':StRel X N pin F w β F' w' β' s.env s.heap s.next a') (hp:∀ j,β j≠none->j<pin) :
  ∃ v,(results fn a'.tmps).run P w'=.ok v w'/\∃ F2 β3,Good X F2 w' β3 (heapOf (BShL.to outh (csnd out.T (BShL.T outh) r)))/\Ext F w β F2 w' β3/\(∀ j,j<pin->β3 j=β j)/\(∀ j,β3 j≠none->j<outh.length) /\
   RelV F2 w' β3 (out.to (cfst out.T (BShL.T outh) r)) v:=by
 unfold endT at he
 obtain ⟨vs,hr1,he⟩:=zB.1 he
 obtain ⟨v,hv1,hv2'⟩:=results_run r'.good r'.env hr1
 obtain ⟨vals2,hvv,hv2v⟩:=oneOf_vals hv2'
 have hst0:StRel X N pin F w β F' w' β' (argEnv vs) s.heap s.next { tmps:=(vals2++List.replicate (N+1) undef).toArray,defers:=X.D }:=by
  refine ⟨r'.good,r'.dom,fun t=>?_,rfl,by simp;omega,r'.ext,r'.pins,r'.pinle⟩
  have:=argEnv_rel (k:=N+1) hvv t
  have e:(vals2++List.replicate (N+1) undef).toArray.getD t undef=(vals2++List.replicate (N+1) undef).getD t undef:=by
   simp [Array.getD_eq_getD_getElem?,List.getD_eq_getElem?_getD]
  rw [e];exact this
 obtain ⟨F4,β4,r4⟩:=promAll_rel (ps:=ptrProm outh (outL vs.length out) vs++outProm outh 0 (outL vs.length out)++pinProm pin outh 0 (outh.take pin)) (s:=⟨argEnv vs,s.heap,s.next⟩) hst0
 generalize hs2:promAll (ptrProm outh (outL vs.length out) vs++outProm outh 0 (outL vs.length out)++pinProm pin outh 0 (outh.take pin)) ⟨argEnv vs,s.heap,s.next⟩=s2 at he r4
 have hvl:=RelVs.length' hvv
 have hv2:RelV F4 w' β4 (oneOf ((List.range vs.length).map s2.env)) v:=by
  rw [hv2v]
  refine oneOf_rel (relVs_range hvl fun k hk=>?_)
  have:=r4.env k
  have e:(vals2++List.replicate (N+1) undef).toArray.getD k undef=vals2.getD k undef:=by
   simp [Array.getD_eq_getD_getElem?,List.getD_eq_getElem?_getD,List.getElem?_append_left (show k<vals2.length by omega)]
  rw [e] at this;exact this
 obtain ⟨⟨vv,h'⟩,hr2,he⟩:=zB.1 he
 simp only at he
 obtain ⟨F2,g2,x2,hv3⟩:=finA_rel _ _ hr2 r4.good hv2
 obtain ⟨c1,hr3,he⟩:=zB.1 he
 split at he
 ·rename_i k v1 hvs
  obtain ⟨x,hx,he⟩:=zB.1 he
  obtain ⟨y,hy,e2⟩:=zM.1 he
  subst e2
  rw [cfst_cmk,csnd_cmk]
  have hcl:=cleanC_eq hr3
  let a2:Act:={ tmps:=Array.replicate (N+1) v,defers:=X.D }
  have hst2:StRel X N pin F w β F2 w' β4 (assoc [(0,vv)]) (deadOut (outh.take pin) 0 h') s2.next a2:=by
   refine ⟨deadOut_good _ _ g2,r4.dom,fun t=>?_,rfl,by simp [a2],fun b hb=>?_,r4.pins,r4.pinle⟩
   ·rcases find_assoc _ t _ rfl with e|hm
    ·rw [e];exact .any _
    ·simp only [List.mem_singleton,zP] at hm
     obtain ⟨rfl,e⟩:=hm
     rw [e]
     have:a2.tmps.getD 0 undef=v:=by simp [a2]
     rw [this];exact hv3
   ·obtain ⟨b1,b2⟩:=r4.ext b hb
    obtain ⟨c1,c2⟩:=x2.f b b1
    exact ⟨c1,c2.trans b2⟩
  obtain ⟨β3,r3⟩:=clean_rel (s:=⟨assoc [(0,vv)],deadOut (outh.take pin) 0 h',s2.next⟩) hst2 hcl
  have hbl:=BShL.of_to _ _ _ hy
  have hlen:c1.bl.length=outh.length:=by rw [hbl,BShL.to_len]
  refine ⟨v,hv1,F2,β3,?_,⟨r3.ext,fun id c hc=>?_⟩,r3.pins,fun j hj=>?_,?_⟩
  ·have:=r3.good
   unfold CSt.st at this
   rw [hbl] at this;exact this
  ·rw [r3.pins id (hp id (by rw [hc];intro e;cases e))];exact hc
  ·have:=r3.dom j hj
   unfold CSt.st at this
   simp only at this
   omega
  ·have:=r3.env 0
   have e0:a2.tmps.getD 0 undef=v:=by simp [a2]
   rw [e0] at this
   have hk:k=0:=by
    obtain ⟨g,hg⟩:=cleanC_vs hr3
    rw [hvs] at hg
    simp at hg
    exact hg.1
   have e1:c1.st.env 0=v1:=by
    unfold CSt.st assoc
    simp only [hvs,hk]
    simp
   rw [e1] at this
   rw [←Sh.of_to _ _ _ hx]
   exact this
 ·cases he
theorem tFn_wp {cx:TCx} (hT:ToldsOK cx.P cx.T) (hfit:fitP cx.P=true) {f:FuncId} {fn:Func} (hf:cx.P.funcs[f]?=some fn) {an:An} {t:Told} {c:Code} (hbb:fn.body=some c) {d} {r} (he:(tFn cx fn an t d).run=some r) {X:Cst} (hD:X.D=[]) {F:Nat->Prop} {w:World} {β:Nat->Option Conc} {vals:List Value}
  (g:Good X F w β (heapOf (BShL.to t.inh (csnd (ShL.T t.ina) (BShL.T t.inh) d)))) (hp:∀ j,β j≠none->j<t.inh.length) (hv:RelVs F w β (ShL.to t.ina (cfst (ShL.T t.ina) (BShL.T t.inh) d)) vals) :
  c.wp cx.P (bodyPost cx.P fn fun e w'=>∃ v F' β',e=.returned v/\Good X F' w' β' (heapOf (BShL.to t.outh (csnd t.out.T (BShL.T t.outh) r)))/\Ext F w β F' w' β'/\(∀ j,j<t.inh.length->β' j=β j)/\(∀ j,β' j≠none->j<t.outh.length) /\
   RelV F' w' β' (t.out.to (cfst t.out.T (BShL.T t.outh) r)) v) { tmps:=vals.toArray++Array.replicate (fn.ntmps - vals.toArray.size) undef,defers:=[] } w:=by
 obtain ⟨hrun,hent⟩:=tRun_sound hT
 have hfn:fitF fn=true:=List.all_eq_true.1 hfit fn (Array.mem_toList_iff.2 (Array.mem_of_getElem? hf))
 unfold fitF at hfn
 rw [hbb] at hfn
 simp only [Bool.and_eq_true] at hfn
 unfold tFn at he
 rw [hbb] at he
 simp only at he
 split at he
 ·rename_i hn
  obtain ⟨⟨e,s⟩,h1,h2⟩:=Tr.run_some he
  have hst:StRel X fn.ntmps t.inh.length F w β F w β (argEnv (ShL.to t.ina (cfst (ShL.T t.ina) (BShL.T t.inh) d))) (heapOf (BShL.to t.inh (csnd (ShL.T t.ina) (BShL.T t.inh) d))) t.inh.length { tmps:=vals.toArray++Array.replicate (fn.ntmps - vals.toArray.size) undef,defers:=[] }:=by
   refine ⟨g,hp,fun t=>?_,hD.symm,?_,fun b hb=>⟨hb,rfl⟩,fun j _=>rfl,Nat.le_refl _⟩
   ·have:=argEnv_rel (k:=fn.ntmps - vals.toArray.size) hv t
    have e:(vals.toArray++Array.replicate (fn.ntmps - vals.toArray.size) undef).getD t undef=(vals++List.replicate (fn.ntmps - vals.toArray.size) undef).getD t undef:=by
     simp [Array.getD_eq_getD_getElem?,List.getD_eq_getElem?_getD,←Array.getElem?_toList]
    rw [e];exact this
   ·simp;omega
  refine wp_mono (tBody_sound hrun hent c an _ e s h1 hfn.2 _ w ⟨F,β,hst⟩) fun e' a' w' hp'=>?_
  obtain ⟨rfl,F',β',r'⟩:=hp'
  have fin:endT cx.P fn t.out t.outh t.inh.length s=some r ->
    a'.defers=[]/\∃ v,(results fn a'.tmps).run cx.P w'=.ok v w'/\∃ v' F' β',Ending.returned v=.returned v'/\Good X F' w' β' (heapOf (BShL.to t.outh (csnd t.out.T (BShL.T t.outh) r)))/\Ext F w β F' w' β'/\(∀ j,j<t.inh.length->β' j=β j)/\(∀ j,β' j≠none->j<t.outh.length)/\RelV F' w' β' (t.out.to (cfst t.out.T (BShL.T t.outh) r)) v':=by
   intro he
   obtain ⟨v,hv,F2,β3,q⟩:=endT_ok he r' hp
   exact ⟨r'.defers.trans hD,v,hv,v,F2,β3,rfl,q⟩
  cases e' with
  |normal=>
   simp only at h2
   split at h2
   ·rename_i r2 hr2
    simp only [Tr.run,zS] at h2
    subst h2
    exact fin hr2
   ·cases h2
  |ret=>
   simp only at h2
   split at h2
   ·rename_i r2 hr2
    simp only [Tr.run,zS] at h2
    subst h2
    exact fin hr2
   ·cases h2
  |_=>cases h2
 ·cases he
theorem body_some {fn:Func} (hb:fn.body.isNone=false):∃ c,fn.body=some c:=by
 cases h:fn.body with
 |none=>rw [h] at hb;cases hb
 |some c=>exact ⟨c,rfl⟩
theorem fit_name {P:Program} (hfit:fitP P=true) {f:FuncId} {fn:Func} (hf:P.funcs[f]?=some fn) {c:Code} (hbb:fn.body=some c):(fn.name == "runtime.NumGoroutine")=false:=by
 have hfn:fitF fn=true:=List.all_eq_true.1 hfit fn (Array.mem_toList_iff.2 (Array.mem_of_getElem? hf))
 unfold fitF at hfn
 rw [hbb] at hfn
 simp only [Bool.and_eq_true] at hfn
 simpa using hfn.1
theorem tFn_sound {cx:TCx} (hT:ToldsOK cx.P cx.T) (hfit:fitP cx.P=true) {f:FuncId} {fn:Func} (hf:cx.P.funcs[f]?=some fn) {an:An} {t:Told} (h:∀ d r,t.f d=some r->(tFn cx fn an t d).run=some r) (hb:fn.body.isNone=false):ToldSound cx.P f t:=by
 obtain ⟨c,hbb⟩:=body_some hb
 refine ⟨⟨fn,hf,hb,fit_name hfit hf hbb⟩,fun d r hr X F w β vals g hp hv=>?_⟩
 exact (calls_of_wp hf hbb (tFn_wp hT hfit hf hbb (h d r hr) (X:={ X with D:=[] }) rfl (g.withD []) hp hv)).mono fun e w' ⟨v,F',β',h1,h2,h3⟩=>⟨v,F',β',h1,h2.noD,h3⟩
theorem zX {P:Program}:ToldsOK P (lookT []):=fun f t h=>by simp [lookT] at h
theorem zW {P:Program} {f:Nat} {ts:List Told} {l:List (Nat×List Told)} (h:∀ t∈ts,ToldSound P f t) (hl:ToldsOK P (lookT l)):ToldsOK P (lookT ((f,ts)::l)):=by
 intro g t ht
 simp only [lookT] at ht
 split at ht
 ·rename_i e
  have:=Nat.eq_of_beq_eq_true e
  subst this
  exact h t ht
 ·exact hl g t ht
theorem told_nz {P:Program} {f:FuncId} {t:Ty} {out:Sh} {outh:List BSh} {g:Dof (comb (ShL.T [.nz t]) (BShL.T []))->Option (Dof (comb out.T (BShL.T outh)))} (h:ToldSound P f ⟨[.nz t],[],out,outh,g⟩)
  {k:List t.D->Option (Dof (comb out.T (BShL.T outh)))} (hk:∀ b (xs:List t.D),(b=true->xs=[])->g (b,xs)=k xs):ToldSound P f ⟨[.dat (.sl t)],[],out,outh,fun xs=>k xs⟩:=by
 refine ⟨h.1,fun d r hr X F w β vals g0 hp hv=>?_⟩
 cases hv with
 |cons _ _ v vs h1 h2=>
 cases h2
 have h1:RelV F w β (.dat (.sl t) d) v:=h1
 obtain ⟨A,n,c,rfl,hrep⟩:∃ A n c,v=.slice A n c/\rep F w (.sl t) d [.slice A n c]:=by
  rcases h1.dat_inv with ⟨_,hr⟩|⟨hm,_⟩
  ·have hr0:=hr
   simp only [rep] at hr
   obtain ⟨A,c,hr,_⟩:=hr
   simp only [List.cons.injEq,and_true] at hr
   exact ⟨A,_,c,hr,hr▸hr0⟩
  ·cases hm
 have hnil:A.isNone=true->(d:List t.D)=[]:=fun e=>by
  simp only [rep] at hrep
  obtain ⟨A',c',h3,_,h4⟩:=hrep
  simp only [List.cons.injEq,Value.slice.injEq,and_true] at h3
  rcases h4 with h4|⟨b,off,h4,_⟩
  ·exact List.eq_nil_of_length_eq_zero h4
  ·rw [←h3.1] at h4;rw [h4] at e;cases e
 refine h.2 (A.isNone,(d:List t.D)) r ?_ X F w β [.slice A n c] g0 hp (.cons _ _ _ _ (.one _ _ rfl (.nz _ _ _ A n c hrep rfl)) .nil)
 show g (A.isNone,d)=some r
 rw [hk _ _ hnil];exact hr
theorem zY {P:Program} (hfit:fitP P=true) {dl:List Nat} {l:List (Nat×List Told)} (hT:ToldsOK P (lookT l)) {f:FuncId} {fn:Func} (hf:P.funcs[f]?=some fn) (hb:fn.body.isNone=false) {an:An} {t:Told}
  {T:Dof (comb (ShL.T t.ina) (BShL.T t.inh))->Tr (Dof (comb t.out.T (BShL.T t.outh)))} (he:(fun d=>tFn (mkCxD P dl l) fn an t d)=T) (hr:∀ d,t.f d=(T d).run):ToldSound P f t:=
 tFn_sound (cx:=mkCxD P dl l) hT hfit hf (fun d r h=>by rw [hr d,←he] at h;exact h) hb
end
end Go.LM
section
namespace Go.LM
end Go.LM
end
namespace Go.LM
section
noncomputable section
section
variable {cx:TCx} {X:Cst} {N pin:Nat} {F0:Nat->Prop} {w0:World} {β0:Nat->Option Conc}
end
end
end
section
open Go.ChangeShapes Go.WideShapes Go.ChangeAt Go.RowKit
def bulkD:(t:Ty)->t.D->Nat
 |.int _,_=>1
 |.bool,_=>1
 |.str,x=>List.length (α:=UInt8) x+1
 |.sl e,xs=>(List.map (α:=e.D) (bulkD e) xs).sum+1
 |.un,_=>0
 |.pr a b,x=>bulkD a x.1+bulkD b x.2
 |.ar _ e,xs=>(List.map (α:=e.D) (bulkD e) xs).sum
structure IsBulk {H:Type} (ub:DataW H->Nat) (ua:List (DataW H)->Nat):Prop where
 lit:∀ bs,ub (.lit (.string bs))=bs.length+1
 one:∀ d,1<=ub d
 slice:∀ e s,ub (.slice e s)=ua e+ua s+1
 agg:∀ l,ub (.agg l)=ua l+1
 nil:ua []=0
 cons:∀ d l,ua (d::l)=ub d+ua l
section
variable {H:Type} {enc:TypeId×Value->H} {P:Program} {W:World} {held:Bool} {ub:DataW H->Nat} {ua:List (DataW H)->Nat}
theorem sum_le (hb:IsBulk ub ua) {t:Ty}:∀ (ys:List t.D) (xs:List (DataW H)),ys.length=xs.length->(∀ i (h:i<ys.length) (h':i<xs.length),bulkD t ys[i]<=ub xs[i])->(ys.map (bulkD t)).sum<=ua xs
 | [],xs,h,_=>by simp
 |y::ys,[],h,_=>by simp at h
 |y::ys,x::xs,h,hi=>by
  rw [hb.cons]
  simp only [List.map_cons,List.sum_cons]
  have h0:=hi 0 (by simp) (by simp)
  simp only [List.getElem_cons_zero] at h0
  have:=sum_le hb ys xs (by simpa using h) fun i h1 h2=>by
   have:=hi (i+1) (by simpa using h1) (by simpa using h2)
   simpa using this
  omega
theorem fields_bulk (hb:IsBulk ub ua) {d:Nat} {F:Nat->Prop}:∀ (fs:List Field) (t:Ty) (off:Nat) (cs:List Value) (zs:List (DataW H)),zs.length=fs.length->fieldsTy (tyOf P d) fs=some t->(∀ (i:Nat) (f:Field),fs[i]?=some f->f.offset=off+((fs.take i).map fun f=>P.cellsOf f.type).sum) ->
  (∀ (i:Nat) (f:Field) (z:DataW H),fs[i]?=some f->zs[i]?=some z->∀ u,tyOf P d f.type=some u->∃ y:u.D,rep F W u y ((cs.drop f.offset).take (P.cellsOf f.type))/\okD u y/\bulkD u y<=ub z)->cs.length=off+(fs.map fun f=>P.cellsOf f.type).sum->∃ y:t.D,rep F W t y (cs.drop off)/\okD t y/\bulkD t y<=ua zs
 | [],t,off,cs,zs,hzs,h,_,_,hl=>by
  simp only [fieldsTy] at h
  cases h
  refine ⟨(),?_,trivial,Nat.zero_le _⟩
  simp only [rep]
  simp at hl
  exact List.drop_eq_nil_of_le (by omega)
 |x::fs,t,off,cs,[],hzs,h,ho,hf,hl=>by simp at hzs
 |x::fs,t,off,cs,z0::zs,hzs,h,ho,hf,hl=>by
  simp only [fieldsTy] at h
  obtain ⟨a,ha,h⟩:=zB.1 h
  obtain ⟨b,hb',h⟩:=zB.1 h
  cases h
  have hx:x.offset=off:=by have:=ho 0 x (by simp);simpa using this
  simp only [List.map_cons,List.sum_cons] at hl
  obtain ⟨y,hy,oy,by'⟩:=hf 0 x z0 (by simp) (by simp) a ha
  obtain ⟨z,hz,oz,bz⟩:=fields_bulk hb fs b (off+P.cellsOf x.type) cs zs (by simpa using hzs) hb' (fun i f hi=>by
   have:=ho (i+1) f (by simpa using hi)
   simp only [List.take_succ_cons,List.map_cons,List.sum_cons] at this
   omega) (fun i f z h1 h2=>hf (i+1) f z (by simpa using h1) (by simpa using h2)) (by omega)
  refine ⟨(y,z),?_,⟨oy,oz⟩,by rw [hb.cons];simp only [bulkD];omega⟩
  simp only [rep]
  refine ⟨_,_,?_,hy,hz⟩
  rw [hx,←List.drop_drop]
  exact (List.take_append_drop _ _).symm
theorem trod_bulk (hb:IsBulk ub ua) (hl:laidOutB P=true) (hz:szP P=true):∀ (d:Nat) (fuel:Nat) (T:TypeId) (cs:List Value) (x:DataW H×List MemPlace) (t:Ty),T<P.types.size->tyOf P d T=some t->DataW.trod enc P W 0 (fun _=>true) held fuel T cs=some x ->
  ∃ y:t.D,rep (fun b=>b<W.heap.size) W t y cs/\okD t y/\bulkD t y<=ub x.1
 |0,fuel,T,cs,x,t,_,h,_=>by simp [tyOf] at h
 |d+1,fuel,T,cs,x,t,hT,h,hx=>by
  have hrow:=List.all_eq_true.1 (by simp only [laidOutB,Bool.and_eq_true] at hl;exact hl.1.1) T (List.mem_range.2 hT)
  simp only [tyOf] at h
  split at h
  ·rename_i k hu
   cases h
   obtain ⟨n,rfl,hx',hw⟩:=DataW.trod_int hu hx
   have hn:toI k (ofI k n)=n:=toI_ofI k n fun e=>by
    subst e
    simp only [Lit.wf,Bool.and_eq_true,decide_eq_true_eq] at hw
    simp [IntKind.min,IntKind.max,IntKind.signed,IntKind.bits] at hw
    omega
   refine ⟨ofI k n,?_,?_,hb.one _⟩
   ·simp only [rep,hn]
   ·simp only [okD,hn];exact hw
  ·rename_i hu
   cases h
   obtain ⟨b,rfl,_⟩:=DataW.trod_bool hu hx
   exact ⟨b,by simp only [rep],trivial,hb.one _⟩
  ·rename_i hu
   cases h
   obtain ⟨s,rfl,hx',hs⟩:=DataW.trod_string hu hx
   refine ⟨s.data.toList,?_,?_,by rw [hx'];simp only [hb.lit,bulkD];exact Nat.le_refl _⟩
   ·simp only [rep]
   ·show s.data.toList.length<=maxLen
    have e:s.data.toList.length=s.size:=rfl
    rw [e];exact hs
  ·rename_i e hu
   obtain ⟨te,ht,h⟩:=zM.1 h
   subst h
   have heT:e<P.types.size:=by
    have hv:isVar P T=true:=isVar_of hu hT rfl
    simp only [rowFine,hv,hu,Bool.not_true,Bool.false_or,Bool.and_eq_true,beq_iff_eq] at hrow
    exact isVar_lt hrow.1
   rcases DataW.trod_slice hu hx with ⟨rfl,_⟩|⟨a,len,cap,elems,rest,n,_,rfl,hx',_,hlc,hcm,hlen,hel,_,_⟩
   ·refine ⟨([]:List te.D),?_,?_,hb.one _⟩
    ·simp only [rep];exact ⟨none,0,rfl,Nat.le_refl _,.inl rfl⟩
    ·exact ⟨Nat.zero_le _,fun x hx=>by cases hx⟩
   ·have hce:0<P.cellsOf e:=by
     have:=List.all_eq_true.1 hz T (List.mem_range.2 hT)
     rw [hu] at this
     simpa using this
    have each:∀ i,i<len->∃ y:te.D,((i=0->a.spot=none)/\a.block<W.heap.size/\P.cellsOf e=te.sz/\∃ us,At W a.block (a.off+i*P.cellsOf e) (P.cellsOf e) us/\rep (fun b=>b<W.heap.size) W te y us)/\okD te y/\∀ h:i<elems.length,bulkD te y<=ub elems[i].1:=fun i hi=>by
     have h1:=hel i hi
     have h2:elems[i]?=some elems[i]:=List.getElem?_eq_getElem (by omega)
     rw [h2] at h1
     obtain ⟨us,h3,h4⟩:=zB.1 h1
     obtain ⟨y,h5,h6,h6b⟩:=trod_bulk hb hl hz d n e us _ te heT ht h4
     obtain ⟨h7,h8,h9⟩:=cells_at hce h3
     have h10:=h8.len
     have h11:=rep_len _ _ _ h5
     rw [add_block] at h8 h9
     rw [add_off] at h8
     exact ⟨y,⟨fun e0=>by subst e0;simpa [Addr.add] using h7,h9,by omega,us,h8,h5⟩,h6,fun _=>h6b⟩
    obtain ⟨ys,hys,hall⟩:=choose_list len each
    refine ⟨ys,?_,?_,?_⟩
    ·simp only [rep]
     refine ⟨some a,cap,by rw [hys],by rw [hys];exact hlc,?_⟩
     rcases Nat.eq_zero_or_pos len with h0|h0
     ·left;rw [hys];exact h0
     ·right
      obtain ⟨⟨h1,h2,h3,_⟩,_⟩:=hall 0 (by omega)
      refine ⟨a.block,a.off,?_,h2,fun i hi=>?_⟩
      ·obtain ⟨ab,ao,asp⟩:=a
       have h1:=h1 rfl
       simp only at h1
       subst h1;rfl
      ·obtain ⟨⟨_,_,_,us,h4,h5⟩,_⟩:=hall i hi
       rw [←h3]
       exact ⟨us,h4,h5⟩
    ·refine ⟨by rw [hys];omega,fun y hy=>?_⟩
     obtain ⟨i,hi,rfl⟩:=List.mem_iff_getElem.1 hy
     exact (hall i hi).2.1
    ·rw [hx']
     simp only [hb.slice,bulkD]
     have:=sum_le hb ys (elems.map (·.1)) (by simp;omega) (fun i h1 h2=>by
      have:=(hall i h1).2.2 (by simpa using h2)
      simpa using this)
     omega
  ·rename_i n e hu
   obtain ⟨te,ht,h⟩:=zM.1 h
   subst h
   obtain ⟨xs,m,_,hx',hcl,hxl,hel⟩:=DataW.trod_array hu hx
   have heT:e<P.types.size:=by
    have hv:isVar P T=true:=isVar_of hu hT rfl
    simp only [rowFine,hv,hu,Bool.not_true,Bool.false_or,Bool.and_eq_true,beq_iff_eq] at hrow
    exact isVar_lt hrow.1
   have each:∀ i,i<n->∃ y:te.D,rep (fun b=>b<W.heap.size) W te y ((cs.drop (i*P.cellsOf e)).take (P.cellsOf e))/\okD te y/\∀ h:i<xs.length,bulkD te y<=ub xs[i].1:=fun i hi=>by
    have h1:=hel i hi
    have h2:xs[i]?=some xs[i]:=List.getElem?_eq_getElem (by omega)
    rw [h2] at h1
    obtain ⟨y,q1,q2,q3⟩:=trod_bulk hb hl hz d m e _ _ te heT ht h1
    exact ⟨y,q1,q2,fun _=>q3⟩
   obtain ⟨ys,hys,hall⟩:=choose_list n each
   have hsz:cs.length=n*P.cellsOf e:=by
    rw [hcl]
    have hv:isVar P T=true:=isVar_of hu hT rfl
    simp only [rowFine,hv,hu,Bool.not_true,Bool.false_or,Bool.and_eq_true,beq_iff_eq] at hrow
    exact hrow.2
   have hsum:bulkD (.ar n te) ys<=ub x.1:=by
    rw [hx']
    simp only [hb.agg,bulkD]
    have:=sum_le hb ys (xs.map (·.1)) (by simp;omega) (fun i h1 h2=>by
     have:=(hall i h1).2.2 (by simpa using h2)
     simpa using this)
    omega
   rcases Nat.eq_zero_or_pos n with h0|h0
   ·subst h0
    refine ⟨ys,?_,?_,hsum⟩
    ·simp only [rep]
     exact ⟨hys,by simpa using hsz,fun i hi=>by omega⟩
    ·exact ⟨hys,fun y hy=>by rw [List.eq_nil_of_length_eq_zero hys] at hy;cases hy⟩
   ·have he:P.cellsOf e=te.sz:=by
     have h1:=rep_len _ _ _ (hall 0 (by omega)).1
     simp at h1
     have:P.cellsOf e<=n*P.cellsOf e:=Nat.le_mul_of_pos_left _ h0
     omega
    refine ⟨ys,?_,?_,hsum⟩
    ·simp only [rep]
     exact ⟨hys,by rw [hsz,he],fun i hi=>by rw [←he];exact (hall i hi).1⟩
    ·refine ⟨hys,fun y hy=>?_⟩
     obtain ⟨i,hi,rfl⟩:=List.mem_iff_getElem.1 hy
     exact (hall i hi).2.1
  ·rename_i fs hu
   obtain ⟨xs,n,_,hx',hcl,hxl,hel⟩:=DataW.trod_struct hu hx
   have hv:isVar P T=true:=isVar_of hu hT rfl
   simp only [rowFine,hv,hu,Bool.not_true,Bool.false_or,Bool.and_eq_true,beq_iff_eq] at hrow
   have:=fields_bulk hb (W:=W) (F:=fun b=>b<W.heap.size) fs.toList t 0 cs (xs.map (·.1)) (by simp;omega) h (fun i f hi=>by
    have hlt:i<fs.toList.length:=(List.getElem?_eq_some_iff.1 hi).1
    have:=List.all_eq_true.1 hrow.2 i (List.mem_range.2 hlt)
    rw [hi] at this
    simpa using this) (fun i f z hi hzi u hu'=>by
    have hi':fs[i]?=some f:=by simpa using hi
    have h1:=hel i f hi'
    obtain ⟨p,h2,rfl⟩:=(by simpa using hzi:∃ p,xs[i]?=some p/\p.1=z)
    rw [h2] at h1
    have hm:f∈fs:=Array.mem_of_getElem? hi'
    exact trod_bulk hb hl hz d n _ _ _ u (isVar_lt (List.all_eq_true.1 hrow.1.1 _ (by simpa using hm))) hu' h1) (by rw [hcl,hrow.1.2];simp)
   obtain ⟨y,h1,h2,h3⟩:=this
   refine ⟨y,by simpa using h1,h2,?_⟩
   rw [hx']
   simp only [hb.agg]
   omega
  ·cases h
end
end
section
open Go.ChangeShapes Go.WideShapes Go.ChangeAt Go.RowKit
def dats (ts:List Ty):List Sh:=ts.map Sh.dat
@[reducible] def DL (ts:List Ty):Type:=Dof (ShL.T (dats ts))
def okDs:(ts:List Ty)->DL ts->Prop
 | [],_=>True
 |t::ts,d=>okD t (cfst (Sh.dat t).T (ShL.T (dats ts)) d)/\okDs ts (csnd (Sh.dat t).T (ShL.T (dats ts)) d)
def bulkDs:(ts:List Ty)->DL ts->Nat
 | [],_=>0
 |t::ts,d=>bulkD t (cfst (Sh.dat t).T (ShL.T (dats ts)) d)+bulkDs ts (csnd (Sh.dat t).T (ShL.T (dats ts)) d)
section
variable {H:Type} {enc:TypeId×Value->H} {P:Program} {W:World} {held:Bool} {ub:DataW H->Nat} {ua:List (DataW H)->Nat}
theorem cell_not_agg {w:World} {r:Reach} {b:Nat} {T:TypeId} {cs:Array Value} (h:Cell.okWide P w r b T (.agg cs)):False:=by
 unfold Cell.okWide Cell.ok at h
 split at h<;>simp_all
theorem arg_open (hb:IsBulk ub ua) (hl:laidOutB P=true) (hz:szP P=true) {β:Nat->Option Conc} {T:TypeId} {t:Ty} {v:Value} {d:DataW H} {ps:List MemPlace} {base:Nat} {r:Reach} (ht:tyC P T=some t) (hT:T<P.types.size)
  (h:DataW.Trod enc P W 0 (fun _=>true) held T v d ps) (hok:Value.okWide P W r base T v):∃ y:t.D,RelV (fun b=>b<W.heap.size) W β (.dat t y) v/\okD t y/\bulkD t y<=ub d:=by
 obtain ⟨fuel,h⟩:=h
 obtain ⟨h1,_,_,⟨u,hu⟩,_⟩:=tyC_some ht
 obtain ⟨y,y1,y2,y3⟩:=trod_bulk hb hl hz _ _ _ _ _ t hT h1 h
 refine ⟨y,?_,y2,y3⟩
 obtain ⟨q1,q2⟩:=RelV.of_tyC (β:=β) ht y1
 refine q2 v (fun e=>?_) (fun e=>?_)
 ·unfold isAggM at e
  unfold Value.okWide at hok
  rw [hu] at e hok
  cases u<;>simp at e
  ·obtain ⟨cs,rfl,_⟩:=hok;simp [Value.cells]
  ·obtain ⟨cs,rfl,_⟩:=hok;simp [Value.cells]
 ·have hc:Cell.okWide P W r base T v:=by
   unfold isAggM at e
   unfold Value.okWide at hok
   rw [hu] at e hok
   cases u<;>simp at e<;>exact hok
  cases v with
  |agg cs=>exact (cell_not_agg hc).elim
  |_=>rfl
theorem args_open (hb:IsBulk ub ua) (hl:laidOutB P=true) (hz:szP P=true) {β:Nat->Option Conc} {base:Nat} {r:Reach}:∀ (Ts:List TypeId) (ts:List Ty) (vs:List Value) (ds:List (DataW H)) (ps:List MemPlace),Ts.map (tyC P)=ts.map some->(∀ T∈Ts,T<P.types.size) ->
  DataW.TrodAll enc P W 0 (fun _=>true) held Ts vs ds ps->(∀ (j:Nat) t v,Ts[j]?=some t->vs[j]?=some v->Value.okWide P W r base t v) ->
  ∃ d:DL ts,RelVs (fun b=>b<W.heap.size) W β (ShL.to (dats ts) d) vs/\okDs ts d/\bulkDs ts d<=ua ds/\ds.length=ts.length
 | [],[],[],[],ps,_,_,_,_=>⟨(),.nil,trivial,Nat.zero_le _,rfl⟩
 |T::Ts,t::ts,v::vs,d::ds,ps,h1,h2,h3,h4=>by
  obtain ⟨p,q,h5,h6,_⟩:=h3
  simp only [List.map_cons,List.cons.injEq] at h1
  obtain ⟨y,r1,o1,b1⟩:=arg_open hb hl hz (β:=β) h1.1 (h2 T (by simp)) h5 (h4 0 T v rfl rfl)
  obtain ⟨z,r2,o2,b2,l2⟩:=args_open hb hl hz (β:=β) Ts ts vs ds q h1.2 (fun T hT=>h2 T (by simp [hT])) h6 (fun j t v a b=>h4 (j+1) t v (by simpa using a) (by simpa using b))
  have e1:cfst (Sh.dat t).T (ShL.T (dats ts)) (cmk (Sh.dat t).T (ShL.T (dats ts)) y z)=y:=cfst_cmk _ _ _ _
  have e2:csnd (Sh.dat t).T (ShL.T (dats ts)) (cmk (Sh.dat t).T (ShL.T (dats ts)) y z)=z:=csnd_cmk _ _ _ _
  refine ⟨cmk (Sh.dat t).T (ShL.T (dats ts)) y z,?_,?_,?_,by simp [l2]⟩
  ·show RelVs _ _ _ (Sh.to (Sh.dat t) (cfst (Sh.dat t).T (ShL.T (dats ts)) _)::ShL.to (dats ts) (csnd (Sh.dat t).T (ShL.T (dats ts)) _)) _
   rw [e1,e2]
   exact .cons _ _ _ _ r1 r2
  ·show okD t (cfst (Sh.dat t).T (ShL.T (dats ts)) _)/\okDs ts (csnd (Sh.dat t).T (ShL.T (dats ts)) _)
   rw [e1,e2];exact ⟨o1,o2⟩
  ·show bulkD t (cfst (Sh.dat t).T (ShL.T (dats ts)) _)+bulkDs ts (csnd (Sh.dat t).T (ShL.T (dats ts)) _)<=_
   rw [e1,e2,hb.cons];omega
 | [],_::_,_,_,_,h,_,_,_=>by simp at h
 |_::_,[],_,_,_,h,_,_,_=>by simp at h
 | [],[],_::_,_,_,_,_,h,_=>h.elim
 | [],[],[],_::_,_,_,_,h,_=>h.elim
 |_::_,_::_,[],_,_,_,_,h,_=>h.elim
 |_::_,_::_,_::_,[],_,_,_,h,_=>h.elim
@[reducible] def lawTold (ts:List Ty) (f:DL ts->Option Bool):Told:=⟨dats ts,[],.dat .bool,[],fun d=>f (cfst (ShL.T (dats ts)) none d)⟩
theorem told_calls {f:FuncId} {ts:List Ty} {g:DL ts->Option Bool} (hs:ToldSound P f (lawTold ts g)) {d:DL ts} (hg:g d=some true) {vals:List Value} (hv:RelVs (fun b=>b<W.heap.size) W noB (ShL.to (dats ts) d) vals) :
  Calls P f vals.toArray W fun e W'=>e=.returned (.bool true)/\Old W W':=by
 let X:Cst:=⟨fun b=>b<W.heap.size,fun b=>b<W.heap.size,W.heap.size,W,[]⟩
 have gd:Good X (fun b=>b<W.heap.size) W noB noH:=
  ⟨fun id c h=>(by cases h),fun id c b h=>(by cases h),fun id id' c c' b h=>(by cases h),fun b h=>h,fun b h=>.inl h,fun b h=>h,fun b _=>rfl,fun b h=>h,Nat.le_refl _,⟨rfl,rfl⟩⟩
 have:=hs.2 (cmk (ShL.T (dats ts)) none d ()) true (by show g _=_;rw [cfst_cmk];exact hg) X _ W noB vals (gd.congr fun id hid=>absurd rfl hid) (fun j hj=>absurd rfl hj) (by
  show RelVs _ _ _ (ShL.to (dats ts) (cfst (ShL.T (dats ts)) none _)) _
  rw [cfst_cmk];exact hv)
 refine this.mono fun e W' h=>?_
 obtain ⟨v,F',β',rfl,g',_,_,_,rv⟩:=h
 have rv:RelV F' W' β' (.dat .bool true) v:=rv
 rw [rv.bool_inv]
 exact ⟨rfl,g'.tame,fun b hb=>g'.frame b hb⟩
theorem row_contract (hb:IsBulk ub ua) (hl:laidOutB P=true) (hz:szP P=true) {f:FuncId} {fn:Func} {s:ChangeSpec} {T:TypeId} {ts:List Ty} {g:DL ts->Option Bool} {apart fresh handsOn again:Bool} {r:Reach} {base B:Nat}
  (hs:ToldSound P f (lawTold ts g)) (hg:∀ d,okDs ts d->bulkDs ts d<=B->g d=some true) (hts:fn.params.toList.map (tyC P)=ts.map some) (hr:(fn.params.toList.all fun t=>P.readableRec t&&decide (t<P.types.size))=true)
  (hT:fn.resultTypes=#[T]) (hbool:P.underlying T=some .bool) (hvars:s.vars=[]) (hspec:∀ ds:List (DataW H),ds.length=ts.length->s.fn H ds={ results:=[.lit (.bool true)],args:=ds })
  {args:Array Value} {ds gs:List (DataW H)} {before:List MemPlace}
  (hval:∀ (j:Nat) t v,fn.params[j]?=some t->args[j]?=some v->Value.okWide P W r base t v)
  (hW:DataW.Whole enc P fn.params.toList s.vars apart W args.toList ds gs before) (hk:ua (ds++gs)<=B) :
  Calls P f args W fun e W'=>∃ v,e=.returned v/\s.post enc P fn apart fresh handsOn again W args v W':=by
 have hW':=hW
 obtain ⟨p,q,hA,hV,rfl,hfz,hnd⟩:=hW
 rw [hvars] at hV
 obtain ⟨rfl,rfl⟩:=trodVars_none hV
 have hlt:∀ T∈fn.params.toList,T<P.types.size:=fun T hT=>by
  have:=List.all_eq_true.1 hr T hT
  simp only [Bool.and_eq_true,decide_eq_true_eq] at this
  exact this.2
 obtain ⟨d,rv,od,bd,ld⟩:=args_open hb hl hz (β:=noB) (r:=r) (base:=base) _ ts _ _ _ hts hlt hA (fun j t v a b=>hval j t v (by simpa using a) (by simpa using b))
 simp only [List.append_nil] at hk
 have:=told_calls hs (hg d od (by omega)) rv
 simp only [Array.toArray_toList] at this
 refine this.mono fun e W' h=>?_
 obtain ⟨rfl,ho⟩:=h
 have hsp:=hspec ds ld
 exact ⟨_,rfl,law_post hl hr hT hbool hvars hW' (by simp [hsp]) (by simp [hsp]) (by simp [hsp]) ho⟩
end
end
end Go.LM
section
namespace Go.LM
namespace Tr
theorem rT {α:Type} (a:α):(ret a).run=some a:=rfl
theorem rR {α:Type} (b:Bool) (x y:Tr α):(br b x y).run=bif b then x.run else y.run:=rfl
theorem rN {α:Type} {p:Prop} (x:Tr α) (h:p):(need p x).run=x.run:=by simp only [run,if_pos h]
theorem rB {α β:Type} (m:Option β) (d:β) (k:β->Tr α):(bind β m d k).run=m.bind fun b=>(k b).run:=rfl
theorem run_csl {α A B:Type} (x:A) (a:A) (b:B) (k1:A->Tr α) (k2:B->Tr α):(cs A B (.inl x) a b k1 k2).run=(k1 x).run:=rfl
theorem run_csr {α A B:Type} (x:B) (a:A) (b:B) (k1:A->Tr α) (k2:B->Tr α):(cs A B (.inr x) a b k1 k2).run=(k2 x).run:=rfl
end Tr
theorem loopO_steps {D R:Type} {f:D->Option (D⊕R)} (S:Nat->D) {r:R}:∀ (N:Nat),(∀ k<N,f (S k)=some (.inl (S (k+1))))->f (S N)=some (.inr r)->loopO f (S 0)=some r
 |0,_,h=>by rw [loopO_eq,h]
 |N+1,hs,h=>by
  have:=loopO_steps (fun k=>S (k+1)) N (fun k hk=>hs (k+1) (by omega)) h
  rw [loopO_eq,hs 0 (by omega)]
  exact this
theorem w64_id {x:Int} (h:-9223372036854775808<=x/\x<9223372036854775808):w64 x=x:=by
 show IntKind.i64.wrap x=x
 rw [IntKind.wrap_i64];omega
theorem u32_id {x:Int} (h:0<=x/\x<4294967296):IntKind.u32.wrap x=x:=by rw [IntKind.wrap_u32];omega
theorem u64_id {x:Int} (h:0<=x/\x<18446744073709551616):IntKind.u64.wrap x=x:=by rw [IntKind.wrap_u64];omega
theorem set_fill {α:Type} (f:Nat->α) (z:α) (k m:Nat):((List.range k).map f++List.replicate (m+1) z).set k (f k)=(List.range (k+1)).map f++List.replicate m z:=by
 rw [List.range_succ,List.map_append,List.set_append_right _ _ (by simp)]
 simp [List.replicate_succ]
end Go.LM
namespace Go.LM
theorem getD_lt {α:Type} (l:List α) (z:α) {k:Nat} (h:k<l.length):l.getD k z=l[k]:=by
 rw [List.getD_eq_getElem?_getD,List.getElem?_eq_getElem h];rfl
end Go.LM
namespace Go.LM
theorem loopO_next {D R:Type} {f:D->Option (D⊕R)} {d d':D} (h:f d=some (.inl d')):loopO f d=loopO f d':=by rw [loopO_eq,h]
theorem loopO_done {D R:Type} {f:D->Option (D⊕R)} {d:D} {r:R} (h:f d=some (.inr r)):loopO f d=some r:=by rw [loopO_eq,h]
end Go.LM
namespace Go.LM
theorem zV {P:Program} {f:FuncId}:∀ t∈([]:List Told),ToldSound P f t:=fun t h=>by cases h
theorem zU {P:Program} {f:FuncId} {t:Told} {l:List Told} (h:ToldSound P f t) (hl:∀ t∈l,ToldSound P f t):∀ t'∈t::l,ToldSound P f t':=fun t' h'=>by
 cases h' with
 |head=>exact h
 |tail _ h'=>exact hl t' h'
end Go.LM
end
section
namespace Go.LM
end Go.LM
end
namespace Go.LM
section
theorem zE {α β:Type} {a:α} {f:α->Option β}:(some a).bind f=f a:=rfl
end
end Go.LM
