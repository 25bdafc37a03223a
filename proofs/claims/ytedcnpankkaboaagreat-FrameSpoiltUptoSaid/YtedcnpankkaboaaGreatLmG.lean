/- LmG: LmT0 LmT1 LmT2 LmT4 LmT3. -/
import Derived.Test.YtedcnpankkaboaaGreatLmF
set_option linter.unusedSimpArgs false
set_option linter.unusedVariables false
namespace Go.LM
section
noncomputable section
abbrev QRes:=Option (Option Prop×AV×Heap×Bool)
def okP:Option Prop->Prop
 |none=>True
 |some p=>p
def qSure (r:Res):QRes:=r.map fun x=>(none,x)
def qUnder (c:Prop) (h:Heap) (v:AV):QRes:=some (some c,v,h,false)
theorem of_okP {p:Prop} (h:okP (some p)):p:=h
def qInt (P:Program) (T:TypeId) (op:BinOp) (k:IntKind) (x:Int) (k':IntKind) (y:Int) (h:Heap):QRes:=
 match op with
 |.shl=>qUnder (0<=y) h (.dat (.int k) (wrI k (x*((2 ^ min y.toNat k.bits:Nat):Int))))
 |.shr=>qUnder (0<=y) h (.dat (.int k) (ofI k (x / ((2 ^ min y.toNat k.bits:Nat):Int))))
 |.quo=>if k=k' then qUnder (y≠0) h (.dat (.int k) (wrI k (x.tdiv y))) else none
 |.rem=>if k=k' then qUnder (y≠0) h (.dat (.int k) (ofI k (x.tmod y))) else none
 |op=>qSure (soft h (exInt op k x k' y))
theorem qInt_ok {P:Program} {T:TypeId} {op:BinOp} {k k':IntKind} {x y:Int} {h:Heap} {c:Option Prop} {r} (e:qInt P T op k x k' y h=some (c,r)) (hc:okP c):soft h (exInt op k x k' y)=some r:=by
 unfold qInt at e
 split at e
 ·cases e;simp only [exInt];rw [if_pos (of_okP hc)];rfl
 ·cases e;simp only [exInt];rw [if_pos (of_okP hc)];rfl
 ·split at e
  ·rename_i hk;cases e;simp only [exInt];rw [if_pos hk,if_neg (of_okP hc)];rfl
  ·cases e
 ·split at e
  ·rename_i hk;cases e;simp only [exInt];rw [if_pos hk,if_neg (of_okP hc)];rfl
  ·cases e
 ·unfold qSure at e
  obtain ⟨q,h1,h2⟩:=zM.1 e
  cases h2
  exact h1
def qBin (P:Program) (T:TypeId) (op:BinOp) (a b:AV) (h:Heap):QRes:=
 match a,b with
 |.dat (.int k) x,.dat (.int k') y=>qInt P T op k (toI k x) k' (toI k' y) h
 |.dat .str x,.dat .str y=>match op with
  |.add=>qUnder (List.length (α:=UInt8) x+List.length (α:=UInt8) y<=4611686018427387904) h (.dat .str (List.append (α:=UInt8) x y))
  |op=>qSure (soft h (exStr op x y))
 |a,b=>qSure (soft h (exBin P T op a b))
theorem qBin_ok {P:Program} {T:TypeId} {op:BinOp} {a b:AV} {h:Heap} {c:Option Prop} {r} (e:qBin P T op a b h=some (c,r)) (hc:okP c):soft h (exBin P T op a b)=some r:=by
 have dflt:∀ {o:Option AV},qSure (soft h o)=some (c,r)->soft h o=some r:=fun {o} e=>by
  unfold qSure at e
  obtain ⟨q,h1,h2⟩:=zM.1 e
  cases h2
  exact h1
 unfold qBin at e
 split at e
 ·exact qInt_ok e hc
 ·split at e
  ·cases e
   simp only [exBin,exStr]
   rw [if_pos (of_okP hc)];rfl
  ·exact dflt e
 ·exact dflt e
def qIndex (P:Program) (T:TypeId) (a i:AV) (h:Heap):QRes:=
 match i with
 |.dat (.int k) n=>
  match P.underlying T,a with
  |some .string,.dat .str s=>qUnder (0<=toI k n/\toI k n<(List.length (α:=UInt8) s:Int)) h (.dat (.int .u8) (List.getD (α:=UInt8) s (toI k n).toNat (0:UInt8)))
  |some (.array len e),.dat (.ar m t) xs=>if elemIs P e t/\len=m then qUnder (0<=toI k n/\toI k n<(len:Int)) h (.dat t (List.getD (α:=t.D) xs (toI k n).toNat t.dflt)) else none
  |_,_=>none
 |_=>none
theorem qIndex_ok {P:Program} {T:TypeId} {a i:AV} {h:Heap} {c:Option Prop} {r} (e:qIndex P T a i h=some (c,r)) (hc:okP c):soft h (exIndex P T a i)=some r:=by
 unfold qIndex at e
 unfold exIndex
 split at e
 ·split at e
  ·rename_i hT
   cases e
   simp only [hT]
   rw [if_pos (of_okP hc)];rfl
  ·rename_i hT
   split at e
   ·rename_i he
    cases e
    simp only [hT]
    rw [if_pos he,if_pos (of_okP hc)];rfl
   ·cases e
  ·cases e
 ·cases e
def qIndexAddr (P:Program) (T:TypeId) (h:Heap) (a i:AV):QRes:=
 match i with
 |.dat (.int k) n=>
  match P.underlying T with
  |some (.array len e)=>match a with
   |.ptr id p=>
    let ar:Option (Nat×Ty):=match p.path with
     | []=>arrLeaf h id p.off
     |(_,o)::rest=>match arrAt h id p.off with
      |some ⟨t,_⟩=>arrIn t o rest
      |none=>none
    match ar with
    |some (m,t)=>if elemIs P e t/\len=m then qUnder (0<=toI k n/\toI k n<(len:Int)) h (.ptr id ⟨p.off,p.path++[(toI k n,0)]⟩) else none
    |none=>none
   |.fptr (.ar m t) xs=>if elemIs P e t/\len=m then qUnder (0<=toI k n/\toI k n<(len:Int)) h (.fptr t (List.getD (α:=t.D) xs (toI k n).toNat t.dflt)) else none
   |_=>none
  |some (.slice e)=>match a with
   |.dat (.sl t) xs=>if elemIs P e t then qUnder (0<=toI k n/\toI k n<List.length (α:=t.D) xs) h (.fptr t (List.getD (α:=t.D) xs (toI k n).toNat t.dflt)) else none
   |.full id=>match arrV h id 0 with
    |some ⟨t,xs⟩=>if elemIs P e t then qUnder (0<=toI k n/\toI k n<xs.length) h (.ptr id ⟨0,[(toI k n,0)]⟩) else none
    |none=>none
   |.sub id off lo hi=>match arrAt h id off with
    |some ⟨t,_⟩=>if elemIs P e t then qUnder (0<=toI k n/\toI k n<hi - lo) h (.ptr id ⟨off,[(lo+toI k n,0)]⟩) else none
    |none=>none
   |_=>none
  |_=>none
 |_=>none
theorem qIndexAddr_ok {P:Program} {T:TypeId} {a i:AV} {h:Heap} {c:Option Prop} {r} (e:qIndexAddr P T h a i=some (c,r)) (hc:okP c):soft h (exIndexAddr P T h a i)=some r:=by
 unfold qIndexAddr at e
 unfold exIndexAddr
 split at e
 ·split at e
  ·rename_i hT
   simp only [hT]
   split at e
   ·rename_i id p
    simp only at e ⊢
    split at e
    ·rename_i m t har
     split at e
     ·rename_i he
      cases e
      cases hp:p.path with
      |nil=>simp only [hp] at har ⊢;rw [har];simp only;rw [if_pos he,if_pos (of_okP hc)];rfl
      |cons q rest=>
       obtain ⟨q1,q2⟩:=q
       simp only [hp] at har ⊢
       cases ha:arrAt h id p.off with
       |none=>rw [ha] at har;cases har
       |some z=>rw [ha] at har;simp only at har ⊢;rw [har];simp only;rw [if_pos he,if_pos (of_okP hc)];rfl
     ·cases e
    ·cases e
   ·split at e
    ·rename_i he
     cases e
     simp only
     rw [if_pos he,if_pos (of_okP hc)];rfl
    ·cases e
   ·cases e
  ·rename_i hT
   simp only [hT]
   split at e
   ·split at e
    ·rename_i he;cases e;simp only;rw [if_pos he,if_pos (of_okP hc)];rfl
    ·cases e
   ·rename_i id
    cases ha:arrV h id 0 with
    |none=>rw [ha] at e;cases e
    |some z=>
     rw [ha] at e
     simp only at e
     simp only [ha]
     split at e
     ·rename_i he;cases e;rw [if_pos he,if_pos (of_okP hc)];rfl
     ·cases e
   ·rename_i id off lo hi
    cases ha:arrAt h id off with
    |none=>rw [ha] at e;cases e
    |some z=>
     rw [ha] at e
     simp only at e
     simp only [ha]
     split at e
     ·rename_i he;cases e;rw [if_pos he,if_pos (of_okP hc)];rfl
     ·cases e
   ·cases e
  ·cases e
 ·cases e
def qSlice (P:Program) (T:TypeId) (h:Heap) (a:AV) (lo hi:Option AV) (mx:Bool):QRes:=
 if mx then none else
 match P.underlying T,a with
 |some .string,.dat .str s=>(bound 0 lo).bind fun l=>(bound (List.length (α:=UInt8) s) hi).bind fun r=>
   qUnder (0<=l/\l<=r/\r<=(List.length (α:=UInt8) s:Int)) h (.dat .str (List.take (α:=UInt8) (r - l).toNat (List.drop (α:=UInt8) l.toNat s)))
 |some (.slice e),.dat (.sl t) xs=>if elemIs P e t then (bound 0 lo).bind fun l=>(bound (List.length (α:=t.D) xs) hi).bind fun r=>
   qUnder (0<=l/\l<=r/\r<=(List.length (α:=t.D) xs:Int)) h (.dat (.sl t) (List.take (α:=t.D) (r - l).toNat (List.drop (α:=t.D) l.toNat xs))) else none
 |some (.slice e),.full id=>match arrAt h id 0 with
  |some ⟨t,xs⟩=>if elemIs P e t then (bound 0 lo).bind fun l=>(bound xs.length hi).bind fun r=>
   qUnder (0<=l/\l<=r/\r<=xs.length) h (.sub id 0 l r) else none
  |none=>none
 |some (.slice e),.sub id off b q=>match arrAt h id off with
  |some ⟨t,_⟩=>if elemIs P e t then (bound 0 lo).bind fun l=>(bound (q - b) hi).bind fun r=>
   qUnder (0<=l/\l<=r/\r<=q - b) h (.sub id off (b+l) (b+r)) else none
  |none=>none
 |some (.array n e),.ptr id p=>match p.path,arrLeaf h id p.off with
  | [],some (m,t)=>if elemIs P e t/\n=m then (bound 0 lo).bind fun l=>(bound n hi).bind fun r=>
   qUnder (0<=l/\l<=r/\r<=n) h (.sub id p.off l r) else none
  |_,_=>none
 |_,_=>none
def qSlice3 (P:Program) (T:TypeId) (h:Heap) (a:AV) (lo hi mx:Option AV):QRes:=
 match P.underlying T,a with
 |some (.slice e),.dat (.sl t) xs=>if elemIs P e t then (boundS lo).bind fun l=>(boundS hi).bind fun r=>(boundS mx).bind fun m=>
   qUnder (0<=l/\l<=r/\r<=m/\m<=(List.length (α:=t.D) xs:Int)) h (.dat (.sl t) (List.take (α:=t.D) (r - l).toNat (List.drop (α:=t.D) l.toNat xs))) else none
 |_,_=>none
theorem qSlice3_ok {P:Program} {T:TypeId} {a:AV} {lo hi mx:Option AV} {h:Heap} {c:Option Prop} {r} (e:qSlice3 P T h a lo hi mx=some (c,r)) (hc:okP c):soft h (exSlice3 P T a lo hi mx)=some r:=by
 unfold qSlice3 at e
 unfold exSlice3
 split at e
 ·rename_i hT
  simp only [hT]
  split at e
  ·rename_i hel
   rw [if_pos hel]
   obtain ⟨l,hl,e⟩:=zB.1 e
   obtain ⟨q,hq,e⟩:=zB.1 e
   obtain ⟨m,hm,e⟩:=zB.1 e
   rw [hl,hq,hm]
   simp only [zb]
   cases e
   rw [if_pos (of_okP hc)];rfl
  ·cases e
 ·cases e
theorem qBind2 {α β:Type} {o1 o2:Option Int} {c:Option Prop} {r:AV×Heap×Bool} {f:Int->Int->QRes} {g:Int->Int->Option AV} {h:Heap} (e:(o1.bind fun l=>o2.bind fun q=>f l q)=some (c,r)) (hfg:∀ l q,f l q=some (c,r)->soft h (g l q)=some r):soft h (o1.bind fun l=>o2.bind fun q=>g l q)=some r:=by
 cases o1 with
 |none=>cases e
 |some l=>
  cases o2 with
  |none=>cases e
  |some q=>exact hfg l q e
theorem qSlice_ok {P:Program} {T:TypeId} {a:AV} {lo hi:Option AV} {mx:Bool} {h:Heap} {c:Option Prop} {r} (e:qSlice P T h a lo hi mx=some (c,r)) (hc:okP c):soft h (exSlice P T h a lo hi mx)=some r:=by
 unfold qSlice at e
 unfold exSlice
 split at e
 ·cases e
 ·rename_i hm
  rw [if_neg hm]
  split at e
  ·rename_i hT
   simp only [hT]
   exact qBind2 (α:=Unit) (β:=Unit) e fun l q he=>by cases he;rw [if_pos (of_okP hc)];rfl
  ·rename_i hT
   simp only [hT]
   split at e
   ·rename_i hel
    rw [if_pos hel]
    exact qBind2 (α:=Unit) (β:=Unit) e fun l q he=>by cases he;rw [if_pos (of_okP hc)];rfl
   ·cases e
  ·rename_i el id hT
   simp only [hT]
   cases ha:arrAt h id 0 with
   |none=>rw [ha] at e;cases e
   |some z=>
    rw [ha] at e
    simp only at e
    simp only [ha]
    split at e
    ·rename_i hel
     rw [if_pos hel]
     exact qBind2 (α:=Unit) (β:=Unit) e fun l q he=>by cases he;rw [if_pos (of_okP hc)];rfl
    ·cases e
  ·rename_i el id off b q hT
   simp only [hT]
   cases ha:arrAt h id off with
   |none=>rw [ha] at e;cases e
   |some z=>
    rw [ha] at e
    simp only at e
    simp only [ha]
    split at e
    ·rename_i hel
     rw [if_pos hel]
     exact qBind2 (α:=Unit) (β:=Unit) e fun l q he=>by cases he;rw [if_pos (of_okP hc)];rfl
    ·cases e
  ·rename_i n el id p hT
   simp only [hT]
   split at e
   ·rename_i m t hp ha
    simp only [hp,ha]
    split at e
    ·rename_i hel
     rw [if_pos hel]
     exact qBind2 (α:=Unit) (β:=Unit) e fun l q he=>by cases he;rw [if_pos (of_okP hc)];rfl
    ·cases e
   ·cases e
  ·cases e
def qMake (P:Program) (T:TypeId) (h:Heap) (id0:Nat) (a b:AV):QRes:=
 match a,b with
 |.dat (.int i) x,.dat (.int j) y=>(elemTy P T).bind fun (e,u)=>(zeroD P e u).bind fun z=>
  if P.bytesOf e=0 then none else some (some (0<=toI i x/\toI i x<=toI j y/\(toI j y).toNat*P.bytesOf e<=maxBytes),.full id0,h.set id0 (.row u (List.replicate (toI i x).toNat z) false),false)
 |_,_=>none
def qAppend (P:Program) (T U:TypeId) (h:Heap) (id0:Nat) (a b:AV):QRes:=
 (elemTy P T).bind fun (e,t)=>(zeroD P e t).bind fun _=>if P.bytesOf e=0 then none else
 (srcOf P U h t b).bind fun ys=>
 match a with
 |.nilS=>some (some (ys.length*P.bytesOf e<=maxBytes),.full id0,h.set id0 (.row t ys false),false)
 |.full id=>match h id with
  |some (.row u xs false)=>(castL xs).bind fun zs=>
   some (some ((zs.length+ys.length)*P.bytesOf e<=maxBytes),.full id0,(h.set id .dead).set id0 (.row t (zs++ys) false),true)
  |_=>none
 |_=>none
theorem qAppend_ok {P:Program} {T U:TypeId} {a b:AV} {h:Heap} {id0:Nat} {c:Option Prop} {r} (e:qAppend P T U h id0 a b=some (c,r)) (hc:okP c):exAppend P T U h id0 a b=some r:=by
 unfold qAppend at e
 unfold exAppend
 obtain ⟨q,h1,e⟩:=zB.1 e
 obtain ⟨el,t⟩:=q
 obtain ⟨z,h2,e⟩:=zB.1 e
 (try simp only at e h2)
 simp only [h1,h2,zb]
 split at e
 ·cases e
 ·rename_i hb
  rw [if_neg hb]
  obtain ⟨ys,h3,e⟩:=zB.1 e
  rw [h3]
  simp only [zb]
  split at e
  ·cases e
   simp only
   rw [if_pos (of_okP hc)]
  ·split at e
   ·rename_i hh
    obtain ⟨zs,h4,e⟩:=zB.1 e
    cases e
    simp only [hh,h4,zb]
    rw [if_pos (of_okP hc)]
   ·cases e
  ·cases e
def qMakeD (P:Program) (T:TypeId) (h:Heap) (id0:Nat) (a b:AV):QRes:=
 match a,b with
 |.dat (.int i) x,.dat (.int j) y=>(elemTy P T).bind fun (e,u)=>(zeroD P e u).bind fun z=>
  if P.bytesOf e=0\/deepK u=false then none else some (some (0<=toI i x/\toI i x<=toI j y/\(toI j y).toNat*P.bytesOf e<=maxBytes),.full id0,h.set id0 (.deep u (List.replicate (toI i x).toNat z) none),false)
 |_,_=>none
theorem qMakeD_ok {P:Program} {T:TypeId} {a b:AV} {h:Heap} {id0:Nat} {c:Option Prop} {r} (e:qMakeD P T h id0 a b=some (c,r)) (hc:okP c):exMakeD P T h id0 a b=some r:=by
 unfold qMakeD at e
 unfold exMakeD
 split at e
 ·obtain ⟨⟨el,u⟩,h3,e⟩:=zB.1 e
  obtain ⟨z,h4,e⟩:=zB.1 e
  (try simp only at e)
  simp only [h3,h4,zb]
  split at e
  ·cases e
  ·rename_i hb
   cases e
   rw [if_pos (of_okP hc),if_neg hb]
 ·cases e
def qMakeDat (P:Program) (T:TypeId) (h:Heap) (a b:AV):QRes:=
 match a,b with
 |.dat (.int i) x,.dat (.int j) y=>(elemTy P T).bind fun (e,u)=>(zeroD P e u).bind fun z=>
  if P.bytesOf e=0 then none else some (some (0<=toI i x/\toI i x<=toI j y/\(toI j y).toNat*P.bytesOf e<=maxBytes),.dat (.sl u) (List.replicate (toI i x).toNat z),h,false)
 |_,_=>none
theorem qMakeDat_ok {P:Program} {T:TypeId} {a b:AV} {h:Heap} {c:Option Prop} {r} (e:qMakeDat P T h a b=some (c,r)) (hc:okP c):soft h (exMakeDat P T a b)=some r:=by
 unfold qMakeDat at e
 unfold exMakeDat
 split at e
 ·obtain ⟨⟨el,u⟩,h3,e⟩:=zB.1 e
  obtain ⟨z,h4,e⟩:=zB.1 e
  (try simp only at e)
  simp only [h3,h4,zb]
  split at e
  ·cases e
  ·rename_i hb
   cases e
   rw [if_pos (of_okP hc),if_neg hb]
   rfl
 ·cases e
def qPutD (hole:Option (Int×Nat×Nat)) (e:Ty) (xs:List e.D) (id:Nat) (i:Int) (o:Nat) (t:Ty) (ys:List t.D) (h1:Heap):Option (Option Prop×Heap):=
 match hole with
 |none=>(inj e (List.getD (α:=e.D) xs i.toNat e.dflt) o (.sl t) ys).map fun x=>(none,h1.set id (.deep e (List.set (α:=e.D) xs i.toNat x) none))
 |some (j,o',_)=>if o'=o then (inj e (List.getD (α:=e.D) xs i.toNat e.dflt) o (.sl t) ys).map fun x=>(some (j=i),h1.set id (.deep e (List.set (α:=e.D) xs i.toNat x) none)) else none
theorem qPutD_ok {hole:Option (Int×Nat×Nat)} {e:Ty} {xs:List e.D} {id:Nat} {i:Int} {o:Nat} {t:Ty} {ys:List t.D} {h1:Heap} {c:Option Prop} {r} (h:qPutD hole e xs id i o t ys h1=some (c,r)) (hc:okP c):putD hole e xs id i o t ys h1=some r:=by
 unfold qPutD at h
 unfold putD
 split at h
 ·obtain ⟨x,q1,q2⟩:=zM.1 h
  cases q2
  simp only [q1,Option.map_some]
 ·split at h
  ·rename_i ho
   obtain ⟨x,q1,q2⟩:=zM.1 h
   cases q2
   simp only
   rw [if_pos ⟨of_okP hc,ho⟩,q1];rfl
  ·cases h
def qStoreD (P:Program) (T:TypeId) (h:Heap) (id:Nat) (i:Int) (o:Nat) (v:AV):Option (Option Prop×Heap):=
 (tyC P T).bind fun u=>
 match slOf u,h id with
 |some t,some (.deep e xs hole)=>
  match v with
  |.nilS=>qPutD hole e xs id i o t [] h
  |.full id1=>match h id1 with
   |some (.row t' ys false)=>(castL (u:=t) ys).bind fun zs=>qPutD hole e xs id i o t zs (h.set id1 .dead)
   |_=>none
  |_=>none
 |none,some (.deep e xs hole)=>if u.hasSl then none else
   (pack h false u v).bind fun y=>(inj e (List.getD (α:=e.D) xs i.toNat e.dflt) o u y).map fun x=>(none,h.set id (.deep e (List.set (α:=e.D) xs i.toNat x) hole))
 |_,_=>none
theorem qStoreD_ok {P:Program} {T:TypeId} {h:Heap} {id:Nat} {i:Int} {o:Nat} {v:AV} {c:Option Prop} {r} (e:qStoreD P T h id i o v=some (c,r)) (hc:okP c):exStoreD P T h id i o v=some r:=by
 unfold qStoreD at e
 unfold exStoreD
 obtain ⟨u,hu,e⟩:=zB.1 e
 rw [hu]
 simp only [zb]
 split at e
 ·rename_i h1 h2
  simp only [h1,h2]
  split at e
  ·exact qPutD_ok e hc
  ·split at e
   ·rename_i h3
    obtain ⟨zs,h4,e⟩:=zB.1 e
    simp only [h3,h4,zb]
    exact qPutD_ok e hc
   ·cases e
  ·cases e
 ·rename_i h1 h2
  simp only [h1,h2]
  split at e
  ·cases e
  ·rename_i hs
   rw [if_neg hs]
   obtain ⟨y,h4,e⟩:=zB.1 e
   obtain ⟨x,h5,h6⟩:=zM.1 e
   cases h6
   simp only [h4,zb]
   rw [h5];rfl
 ·cases e
def qStore (P:Program) (T:TypeId) (h:Heap) (a v:AV):QRes:=
 match deepAt h a with
 |some (id,i,o)=>(qStoreD P T h id i o v).map fun q=>(q.1,.any,q.2,true)
 |none=>(exStore P T h a v).map fun h'=>(none,.any,h',true)
theorem qStore_ok {P:Program} {T:TypeId} {h:Heap} {a v:AV} {c:Option Prop} {r} (e:qStore P T h a v=some (c,r)) (hc:okP c):(exStoreAny P T h a v).map (fun h'=>(AV.any,h',true))=some r:=by
 unfold qStore at e
 unfold exStoreAny
 split at e
 ·rename_i hd
  obtain ⟨⟨c',h'⟩,h1,h2⟩:=zM.1 e
  simp only [zP] at h2
  obtain ⟨rfl,h2⟩:=h2
  simp only [hd]
  rw [qStoreD_ok h1 hc,←h2];rfl
 ·rename_i hd
  obtain ⟨h',h1,h2⟩:=zM.1 e
  cases h2
  simp only [hd,h1,Option.map_some]
def qAppendD (P:Program) (T U:TypeId) (h:Heap) (id0:Nat) (a:AV) (idb:Nat):QRes:=
 match P.underlying U with
 |some (.slice _)=>(elemTy P T).bind fun (e,u)=>(zeroD P e u).bind fun _=>if P.bytesOf e=0 then none else
  match a with
  |.nilS=>match h idb with
   |some (.deep u' ys none)=>(castL (u:=u) ys).bind fun ys=>
    some (some (ys.length*P.bytesOf e<=maxBytes),.full id0,(h.set idb .dead).set id0 (.deep u ys none),true)
   |_=>none
  |.full ida=>if ida=idb then none else (closeD h ida).bind fun ⟨u'',xs,h1⟩=>match h1 idb with
   |some (.deep u' ys none)=>(castL (u:=u) xs).bind fun xs=>(castL (u:=u) ys).bind fun ys=>
    some (some ((xs.length+ys.length)*P.bytesOf e<=maxBytes),.full id0,((h1.set ida .dead).set idb .dead).set id0 (.deep u (xs++ys) none),true)
   |_=>none
  |_=>none
 |_=>none
theorem qAppendD_ok {P:Program} {T U:TypeId} {a:AV} {idb:Nat} {h:Heap} {id0:Nat} {c:Option Prop} {r} (e:qAppendD P T U h id0 a idb=some (c,r)) (hc:okP c):exAppendD P T U h id0 a idb=some r:=by
 unfold qAppendD at e
 unfold exAppendD
 split at e
 ·rename_i hU
  simp only [hU]
  obtain ⟨⟨el,t⟩,h1,e⟩:=zB.1 e
  obtain ⟨z,h2,e⟩:=zB.1 e
  (try simp only at e)
  simp only [h1,h2,zb]
  split at e
  ·cases e
  ·rename_i hb
   rw [if_neg hb]
   split at e
   ·split at e
    ·rename_i hh
     obtain ⟨ys,h3,e⟩:=zB.1 e
     cases e
     simp only [hh,h3,zb]
     rw [if_pos (of_okP hc)]
    ·cases e
   ·split at e
    ·cases e
    ·rename_i hab
     simp only
     rw [if_neg hab]
     obtain ⟨⟨a1,a2,a3⟩,h3,e⟩:=zB.1 e
     simp only [h3,zb]
     (try simp only at e)
     split at e
     ·rename_i hh
      obtain ⟨xs,h4,e⟩:=zB.1 e
      obtain ⟨ys,h5,e⟩:=zB.1 e
      cases e
      simp only [hh,h4,h5,zb]
      rw [if_pos (of_okP hc)]
     ·cases e
   ·cases e
 ·cases e
def qApp (P:Program) (A B:TypeId) (h:Heap) (id0:Nat) (x y:AV):QRes:=
 match y with
 |.full idb=>match isDeep h idb with
  |true=>qAppendD P A B h id0 x idb
  |false=>qAppend P A B h id0 x y
 |y=>qAppend P A B h id0 x y
def qOp (cx:Cx) (ρ:Operand->AV) (o:Op) (T:TypeId) (h:Heap) (id0:Nat):QRes:=
 match o with
 |.binOp op t x y _=>qBin cx.P t op (ρ x) (ρ y) h
 |.index t x i=>qIndex cx.P t (ρ x) (ρ i) h
 |.indexAddr t x i=>qIndexAddr cx.P t h (ρ x) (ρ i)
 |.slice t x lo hi mx=>match mx with
  |some m=>match lo with
   |none=>qSure (exEmpty cx.P t h id0 (ρ x) none (hi.map ρ) (some (ρ m)))
   |some l=>qSlice3 cx.P t h (ρ x) (some (ρ l)) (hi.map ρ) (some (ρ m))
  |none=>qSlice cx.P t h (ρ x) (lo.map ρ) (hi.map ρ) false
 |.makeSlice t l c=>match cx.deep (t+litT) with
  |true=>qMakeDat cx.P t h (ρ l) (ρ c)
  |false=>match cx.deep t with
   |true=>qMakeD cx.P t h id0 (ρ l) (ρ c)
   |false=>qMake cx.P t h id0 (ρ l) (ρ c)
 |.store t a v=>qStore cx.P t h (ρ a) (ρ v)
 |.nilCheck x=>match ρ x with
  |.mp b t y=>qUnder (b=true) h (.fptr t y)
  |_=>qSure (exOp cx ρ (.nilCheck x) T h id0)
 |.call c=>match c.callee,c.argTypes.toList,c.args.toList.map ρ with
  |.builtin .append,[A,B],[x,y]=>qApp cx.P A B h id0 x y
  |_,_,_=>qSure (exOp cx ρ (.call c) T h id0)
 |o=>qSure (exOp cx ρ o T h id0)
theorem qOp_ok {cx:Cx} {ρ:Operand->AV} {o:Op} {T:TypeId} {h:Heap} {id0:Nat} {c:Option Prop} {r} (e:qOp cx ρ o T h id0=some (c,r)) (hc:okP c):exOp cx ρ o T h id0=some r:=by
 have dflt:∀ {o:Res},qSure o=some (c,r)->o=some r:=fun {o} e=>by
  unfold qSure at e
  obtain ⟨q,h1,h2⟩:=zM.1 e
  cases h2
  exact h1
 unfold qOp at e
 split at e
 ·simp only [exOp];exact qBin_ok e hc
 ·simp only [exOp];exact qIndex_ok e hc
 ·simp only [exOp];exact qIndexAddr_ok e hc
 ·simp only [exOp]
  split at e
  ·split at e
   ·exact dflt e
   ·exact qSlice3_ok e hc
  ·exact qSlice_ok e hc
 ·rename_i t l k
  simp only [exOp]
  cases hlit:cx.deep (t+litT) with
  |true=>
   rw [hlit] at e
   simp only
   exact qMakeDat_ok e hc
  |false=>
  rw [hlit] at e
  simp only at e ⊢
  cases hdp:cx.deep t with
  |true=>
   rw [hdp] at e
   simp only [if_true]
   exact qMakeD_ok e hc
  |false=>
  rw [hdp] at e
  simp only [Bool.false_eq_true,if_false]
  simp only at e
  unfold qMake at e
  split at e
  ·rename_i h1 h2
   simp only [h1,h2]
   obtain ⟨q,h3,e⟩:=zB.1 e
   obtain ⟨el,u⟩:=q
   obtain ⟨z,h4,e⟩:=zB.1 e
   (try simp only at e h4)
   simp only [h3,h4,zb]
   split at e
   ·cases e
   ·rename_i hb
    cases e
    rw [if_pos (of_okP hc),if_neg hb]
  ·cases e
 ·simp only [exOp];exact qStore_ok e hc
 ·split at e
  ·rename_i hx
   cases e
   have hb:=of_okP hc
   subst hb
   simp only [exOp,hx]
  ·exact dflt e
 ·split at e
  ·rename_i h1 h2 h3
   simp only [exOp,h1,h3,exBuiltin,h2]
   unfold qApp at e
   split at e
   ·split at e
    ·rename_i hd;simp only [hd,if_true];exact qAppendD_ok e hc
    ·rename_i hd;simp only [hd,Bool.false_eq_true,if_false];exact qAppend_ok e hc
   ·rename_i hne
    split
    ·exact (hne _ rfl).elim
    ·exact qAppend_ok e hc
  ·exact dflt e
 ·exact dflt e
end
end
section
noncomputable section
@[reducible] def Dof:Option Type->Type
 |none=>Unit
 |some A=>A
@[reducible] def comb:Option Type->Option Type->Option Type
 |none,b=>b
 |some A,none=>some A
 |some A,some B=>some (A×B)
def cfst:(a b:Option Type)->Dof (comb a b)->Dof a
 |none,_,_=>()
 |some _,none,x=>x
 |some _,some _,x=>x.1
def csnd:(a b:Option Type)->Dof (comb a b)->Dof b
 |none,_,x=>x
 |some _,none,_=>()
 |some _,some _,x=>x.2
def cmk:(a b:Option Type)->Dof a->Dof b->Dof (comb a b)
 |none,_,_,y=>y
 |some _,none,x,_=>x
 |some _,some _,x,y=>(x,y)
theorem cfst_cmk:∀ (a b:Option Type) (x:Dof a) (y:Dof b),cfst a b (cmk a b x y)=x
 |none,_,_,_=>rfl
 |some _,none,_,_=>rfl
 |some _,some _,_,_=>rfl
theorem csnd_cmk:∀ (a b:Option Type) (x:Dof a) (y:Dof b),csnd a b (cmk a b x y)=y
 |none,_,_,_=>rfl
 |some _,none,_,_=>rfl
 |some _,some _,_,_=>rfl
inductive Sh where
 |dat (t:Ty)|nilS|nilP|nilF
 |full (id:Nat)|sub (id off:Nat)
 |ptr (id off:Nat) (path:List Nat)
 |fptr (t:Ty)
 |nz (t:Ty)
 |mp (t:Ty)
 |fn (f:FuncId) (caps:List Sh)
 |agg (xs:List Sh)|tup (xs:List Sh)
 |any
 |mref (id:Nat)
def pathT:List Nat->Option Type
 | []=>none
 |_::l=>comb (some Int) (pathT l)
def pathTo:(l:List Nat)->Dof (pathT l)->List (Int×Nat)
 | [],_=>[]
 |o::l,d=>(cfst (some Int) (pathT l) d,o)::pathTo l (csnd (some Int) (pathT l) d)
def pathOf:(l:List Nat)->List (Int×Nat)->Option (Dof (pathT l))
 | [],[]=>some ()
 |o::l,(i,o')::m=>if o=o' then (pathOf l m).map fun d=>cmk (some Int) (pathT l) i d else none
 |_,_=>none
def pathZ:(l:List Nat)->Dof (pathT l)
 | []=>()
 |_::l=>cmk (some Int) (pathT l) (0:Int) (pathZ l)
theorem pathOf_to:∀ {l:List Nat} {m:List (Int×Nat)} {d},pathOf l m=some d->m=pathTo l d
 | [],[],_,_=>rfl
 |o::l,(i,o')::m,d,h=>by
  simp only [pathOf] at h
  split at h
  ·rename_i e
   obtain ⟨d',h1,h2⟩:=zM.1 h
   subst h2
   simp only [pathTo,cfst_cmk,csnd_cmk]
   rw [←pathOf_to h1,e]
  ·cases h
 | [],_::_,_,h=>by simp [pathOf] at h
 |_::_,[],_,h=>by simp [pathOf] at h
mutual
def Sh.T:Sh->Option Type
 |.dat t=>some t.D
 |.sub _ _=>some (Int×Int)
 |.ptr _ _ p=>pathT p
 |.fptr t=>some t.D
 |.nz t=>some (Bool×List t.D)
 |.mp t=>some (Bool×t.D)
 |.fn _ cs=>ShL.T cs
 |.agg xs=>ShL.T xs
 |.tup xs=>ShL.T xs
 |.nilS=>none
 |.nilP=>none
 |.nilF=>none
 |.full _=>none
 |.any=>none
 |.mref _=>none
def ShL.T:List Sh->Option Type
 | []=>none
 |a::l=>comb a.T (ShL.T l)
end
mutual
def Sh.to:(s:Sh)->Dof s.T->AV
 |.dat t,x=>.dat t (show t.D from x)
 |.sub id off,x=>.sub id off (show Int×Int from x).1 (show Int×Int from x).2
 |.ptr id off p,x=>.ptr id ⟨off,pathTo p x⟩
 |.fptr t,x=>.fptr t (show t.D from x)
 |.nz t,x=>.nz (show Bool×List t.D from x).1 t (show Bool×List t.D from x).2
 |.mp t,x=>.mp (show Bool×t.D from x).1 t (show Bool×t.D from x).2
 |.fn f cs,x=>.fn f (ShL.to cs x)
 |.agg xs,x=>.agg (ShL.to xs x)
 |.tup xs,x=>.tup (ShL.to xs x)
 |.nilS,_=>.nilS
 |.nilP,_=>.nilP
 |.nilF,_=>.nilF
 |.full id,_=>.full id
 |.any,_=>.any
 |.mref id,_=>.mref id
def ShL.to:(l:List Sh)->Dof (ShL.T l)->List AV
 | [],_=>[]
 |a::l,x=>a.to (cfst a.T (ShL.T l) x)::ShL.to l (csnd a.T (ShL.T l) x)
end
def datOf (t:Ty):AV->Option t.D
 |.dat u x=>cast' (a:=u) (b:=t) x
 |_=>none
def fptrOf (t:Ty):AV->Option t.D
 |.fptr u x=>cast' (a:=u) (b:=t) x
 |_=>none
def nzOf (t:Ty):AV->Option (Bool×List t.D)
 |.nz b u xs=>(castL (t:=u) (u:=t) xs).map fun y=>(b,y)
 |_=>none
def mpvOf (t:Ty):AV->Option (Bool×t.D)
 |.mp b u x=>(cast' (a:=u) (b:=t) x).map fun y=>(b,y)
 |_=>none
def subOf (id off:Nat):AV->Option (Int×Int)
 |.sub id' off' lo hi=>if id=id'/\off=off' then some (lo,hi) else none
 |_=>none
def ptrOf (id off:Nat) (p:List Nat):AV->Option (Dof (pathT p))
 |.ptr id' q=>if id=id'/\off=q.off then pathOf p q.path else none
 |_=>none
def fnOf (f:FuncId):AV->Option (List AV)
 |.fn g ds=>if f=g then some ds else none
 |_=>none
def aggOf:AV->Option (List AV)
 |.agg ds=>some ds
 |_=>none
def tupOf:AV->Option (List AV)
 |.tup ds=>some ds
 |_=>none
def isNilS:AV->Option Unit | .nilS=>some ()|_=>none
def isNilP:AV->Option Unit | .nilP=>some ()|_=>none
def isNilF:AV->Option Unit | .nilF=>some ()|_=>none
def isAny:AV->Option Unit | .any=>some ()|_=>none
def isFull (id:Nat):AV->Option Unit | .full id'=>if id=id' then some () else none|_=>none
theorem datOf_some {t:Ty} {a:AV} {x:t.D} (h:datOf t a=some x):a=.dat t x:=by
 unfold datOf at h
 split at h
 ·obtain ⟨e,h2⟩:=cast'_some h;subst e;subst h2;rfl
 ·cases h
theorem fptrOf_some {t:Ty} {a:AV} {x:t.D} (h:fptrOf t a=some x):a=.fptr t x:=by
 unfold fptrOf at h
 split at h
 ·obtain ⟨e,h2⟩:=cast'_some h;subst e;subst h2;rfl
 ·cases h
theorem nzOf_some {t:Ty} {a:AV} {x} (h:nzOf t a=some x):a=.nz x.1 t x.2:=by
 unfold nzOf at h
 split at h
 ·obtain ⟨y,h1,h2⟩:=zM.1 h
  obtain ⟨e,h3⟩:=castL_some h1
  subst e;subst h3;subst h2;rfl
 ·cases h
theorem mpvOf_some {t:Ty} {a:AV} {x} (h:mpvOf t a=some x):a=.mp x.1 t x.2:=by
 unfold mpvOf at h
 split at h
 ·obtain ⟨y,h1,h2⟩:=zM.1 h
  obtain ⟨e,h3⟩:=cast'_some h1
  subst e;subst h3;subst h2;rfl
 ·cases h
theorem subOf_some {id off:Nat} {a:AV} {x} (h:subOf id off a=some x):a=.sub id off x.1 x.2:=by
 unfold subOf at h
 split at h
 ·split at h
  ·rename_i e;obtain ⟨rfl,rfl⟩:=e;cases h;rfl
  ·cases h
 ·cases h
theorem ptrOf_some {id off:Nat} {p:List Nat} {a:AV} {x} (h:ptrOf id off p a=some x):a=.ptr id ⟨off,pathTo p x⟩:=by
 unfold ptrOf at h
 split at h
 ·split at h
  ·rename_i e;obtain ⟨rfl,e2⟩:=e;rw [←pathOf_to h,e2]
  ·cases h
 ·cases h
theorem fnOf_some {f:FuncId} {a:AV} {l} (h:fnOf f a=some l):a=.fn f l:=by
 unfold fnOf at h
 split at h
 ·split at h
  ·rename_i e;subst e;cases h;rfl
  ·cases h
 ·cases h
theorem aggOf_some {a:AV} {l} (h:aggOf a=some l):a=.agg l:=by
 unfold aggOf at h;split at h
 ·cases h;rfl
 ·cases h
theorem tupOf_some {a:AV} {l} (h:tupOf a=some l):a=.tup l:=by
 unfold tupOf at h;split at h
 ·cases h;rfl
 ·cases h
theorem isNilS_some {a:AV} {u} (h:isNilS a=some u):a=.nilS:=by
 unfold isNilS at h;split at h
 ·rfl
 ·cases h
theorem isNilP_some {a:AV} {u} (h:isNilP a=some u):a=.nilP:=by
 unfold isNilP at h;split at h
 ·rfl
 ·cases h
theorem isNilF_some {a:AV} {u} (h:isNilF a=some u):a=.nilF:=by
 unfold isNilF at h;split at h
 ·rfl
 ·cases h
theorem isAny_some {a:AV} {u} (h:isAny a=some u):a=.any:=by
 unfold isAny at h;split at h
 ·rfl
 ·cases h
theorem isFull_some {id:Nat} {a:AV} {u} (h:isFull id a=some u):a=.full id:=by
 unfold isFull at h;split at h
 ·split at h
  ·rename_i e;subst e;rfl
  ·cases h
 ·cases h
def isMref (id:Nat):AV->Option Unit
 |.mref id'=>if id=id' then some () else none
 |_=>none
theorem isMref_some {id:Nat} {a:AV} {u} (h:isMref id a=some u):a=.mref id:=by
 unfold isMref at h;split at h
 ·split at h
  ·rename_i e;subst e;rfl
  ·cases h
 ·cases h
mutual
def Sh.of:(s:Sh)->AV->Option (Dof s.T)
 |.dat t,a=>datOf t a
 |.sub id off,a=>subOf id off a
 |.ptr id off p,a=>ptrOf id off p a
 |.fptr t,a=>fptrOf t a
 |.nz t,a=>nzOf t a
 |.mp t,a=>mpvOf t a
 |.fn f cs,a=>(fnOf f a).bind (ShL.of cs)
 |.agg xs,a=>(aggOf a).bind (ShL.of xs)
 |.tup xs,a=>(tupOf a).bind (ShL.of xs)
 |.nilS,a=>isNilS a
 |.nilP,a=>isNilP a
 |.nilF,a=>isNilF a
 |.full id,a=>isFull id a
 |.any,a=>isAny a
 |.mref id,a=>isMref id a
def ShL.of:(l:List Sh)->List AV->Option (Dof (ShL.T l))
 | [],[]=>some ()
 | [],_::_=>none
 |_::_,[]=>none
 |a::l,b::m=>(a.of b).bind fun x=>(ShL.of l m).map fun y=>cmk a.T (ShL.T l) x y
end
mutual
def Sh.z:(s:Sh)->Dof s.T
 |.dat t=>(t.dflt:t.D)
 |.sub _ _=>((0:Int),(0:Int))
 |.ptr _ _ p=>pathZ p
 |.fptr t=>(t.dflt:t.D)
 |.nz t=>(false,([]:List t.D))
 |.mp t=>(false,(t.dflt:t.D))
 |.fn _ cs=>ShL.z cs
 |.agg xs=>ShL.z xs
 |.tup xs=>ShL.z xs
 |.nilS=>()
 |.nilP=>()
 |.nilF=>()
 |.full _=>()
 |.any=>()
 |.mref _=>()
def ShL.z:(l:List Sh)->Dof (ShL.T l)
 | []=>()
 |a::l=>cmk a.T (ShL.T l) a.z (ShL.z l)
end
mutual
def shapeA:AV->Sh
 |.dat t _=>.dat t
 |.nilS=>.nilS
 |.nilP=>.nilP
 |.nilF=>.nilF
 |.full id=>.full id
 |.sub id off _ _=>.sub id off
 |.ptr id p=>.ptr id p.off (p.path.map (·.2))
 |.fptr t _=>.fptr t
 |.nz _ t _=>.nz t
 |.mp _ t _=>.mp t
 |.fn f cs=>.fn f (shapeL cs)
 |.agg xs=>.agg (shapeL xs)
 |.tup xs=>.tup (shapeL xs)
 |.any=>.any
 |.mref id=>.mref id
def shapeL:List AV->List Sh
 | []=>[]
 |a::l=>shapeA a::shapeL l
end
mutual
theorem Sh.of_to:∀ (s:Sh) (a:AV) (d:Dof s.T),s.of a=some d->a=s.to d
 |.dat t,a,d,h=>datOf_some h
 |.sub id off,a,d,h=>subOf_some h
 |.ptr id off p,a,d,h=>ptrOf_some h
 |.fptr t,a,d,h=>fptrOf_some h
 |.nz t,a,d,h=>nzOf_some h
 |.mp t,a,d,h=>mpvOf_some h
 |.fn f cs,a,d,h=>by
  have h:(fnOf f a).bind (ShL.of cs)=some d:=h
  obtain ⟨l,h1,h2⟩:=zB.1 h
  exact (fnOf_some h1).trans (congrArg (AV.fn f) (ShL.of_to cs l d h2))
 |.agg xs,a,d,h=>by
  have h:(aggOf a).bind (ShL.of xs)=some d:=h
  obtain ⟨l,h1,h2⟩:=zB.1 h
  exact (aggOf_some h1).trans (congrArg AV.agg (ShL.of_to xs l d h2))
 |.tup xs,a,d,h=>by
  have h:(tupOf a).bind (ShL.of xs)=some d:=h
  obtain ⟨l,h1,h2⟩:=zB.1 h
  exact (tupOf_some h1).trans (congrArg AV.tup (ShL.of_to xs l d h2))
 |.nilS,a,d,h=>isNilS_some h
 |.nilP,a,d,h=>isNilP_some h
 |.nilF,a,d,h=>isNilF_some h
 |.full id,a,d,h=>isFull_some h
 |.any,a,d,h=>isAny_some h
 |.mref id,a,d,h=>isMref_some h
theorem ShL.of_to:∀ (l:List Sh) (m:List AV) (d:Dof (ShL.T l)),ShL.of l m=some d->m=ShL.to l d
 | [],[],d,h=>rfl
 | [],_::_,d,h=>by cases h
 |_::_,[],d,h=>by cases h
 |a::l,b::m,d,h=>by
  have h:((a.of b).bind fun x=>(ShL.of l m).map fun y=>cmk a.T (ShL.T l) x y)=some d:=h
  obtain ⟨x,h1,h⟩:=zB.1 h
  obtain ⟨y,h2,h3⟩:=zM.1 h
  subst h3
  show b::m=a.to (cfst a.T (ShL.T l) _)::ShL.to l (csnd a.T (ShL.T l) _)
  rw [cfst_cmk,csnd_cmk,←Sh.of_to a b x h1,←ShL.of_to l m y h2]
end
inductive BSh where
 |row (t:Ty) (fr:Bool)
 |deep (e:Ty) (hole:Option (Nat×Nat))
 |vars (l:List Sh)
 |dead
 |mapB (k v:Ty)
def BSh.T:BSh->Option Type
 |.row t _=>some (List t.D)
 |.deep e none=>some (List e.D)
 |.deep e (some _)=>some (List e.D×Int)
 |.vars l=>ShL.T l
 |.dead=>none
 |.mapB k v=>some (List (k.D×v.D))
def BSh.to:(b:BSh)->Dof b.T->Blk
 |.row t fr,x=>.row t x fr
 |.deep e none,x=>.deep e x none
 |.deep e (some q),x=>.deep e (show List e.D×Int from x).1 (some ((show List e.D×Int from x).2,q.1,q.2))
 |.vars l,x=>.vars (ShL.to l x)
 |.dead,_=>.dead
 |.mapB k v,x=>.mapB k v x
def rowOf (t:Ty) (fr:Bool):Option Blk->Option (List t.D)
 |some (.row u xs fr')=>if fr=fr' then castL (t:=u) (u:=t) xs else none
 |_=>none
def deepOf0 (e:Ty):Option Blk->Option (List e.D)
 |some (.deep u xs none)=>castL (t:=u) (u:=e) xs
 |_=>none
def deepOf1 (e:Ty) (q:Nat×Nat):Option Blk->Option (List e.D×Int)
 |some (.deep u xs (some (i,o,j)))=>if o=q.1/\j=q.2 then (castL (t:=u) (u:=e) xs).map fun y=>(y,i) else none
 |_=>none
theorem deepOf0_some {e:Ty} {a:Option Blk} {d} (h:deepOf0 e a=some d):a=some (.deep e d none):=by
 unfold deepOf0 at h
 split at h
 ·obtain ⟨e2,h2⟩:=castL_some h
  subst e2;subst h2;rfl
 ·cases h
theorem deepOf1_some {e:Ty} {q:Nat×Nat} {a:Option Blk} {d} (h:deepOf1 e q a=some d):a=some (.deep e d.1 (some (d.2,q.1,q.2))):=by
 unfold deepOf1 at h
 split at h
 ·split at h
  ·rename_i hq
   obtain ⟨y,h1,h3⟩:=zM.1 h
   obtain ⟨e2,h2⟩:=castL_some h1
   subst e2;subst h2;subst h3
   rw [hq.1,hq.2]
  ·cases h
 ·cases h
def varsOf:Option Blk->Option (List AV)
 |some (.vars m)=>some m
 |_=>none
def isDead:Option Blk->Option Unit
 |some .dead=>some ()
 |_=>none
theorem rowOf_some {t:Ty} {fr:Bool} {a:Option Blk} {d} (h:rowOf t fr a=some d):a=some (.row t d fr):=by
 unfold rowOf at h
 split at h
 ·split at h
  ·rename_i e
   obtain ⟨e2,h2⟩:=castL_some h
   subst e;subst e2;subst h2;rfl
  ·cases h
 ·cases h
theorem varsOf_some {a:Option Blk} {d} (h:varsOf a=some d):a=some (.vars d):=by
 unfold varsOf at h
 split at h
 ·cases h;rfl
 ·cases h
theorem isDead_some {a:Option Blk} {d} (h:isDead a=some d):a=some .dead:=by
 unfold isDead at h
 split at h
 ·rfl
 ·cases h
def mapOf (k v:Ty):Option Blk->Option (List (k.D×v.D))
 |some (.mapB k' v' es)=>castL (t:=.pr k' v') (u:=.pr k v) es
 |_=>none
theorem mapOf_some {k v:Ty} {a:Option Blk} {d} (h:mapOf k v a=some d):a=some (.mapB k v d):=by
 unfold mapOf at h
 split at h
 ·obtain ⟨e2,h2⟩:=castL_some h
  cases e2;subst h2;rfl
 ·cases h
def BSh.of:(b:BSh)->Option Blk->Option (Dof b.T)
 |.row t fr,a=>rowOf t fr a
 |.deep e none,a=>deepOf0 e a
 |.deep e (some q),a=>deepOf1 e q a
 |.vars l,a=>(varsOf a).bind (ShL.of l)
 |.dead,a=>isDead a
 |.mapB k v,a=>mapOf k v a
def BSh.z:(b:BSh)->Dof b.T
 |.row t _=>([]:List t.D)
 |.deep e none=>([]:List e.D)
 |.deep e (some _)=>(([]:List e.D),(0:Int))
 |.vars l=>ShL.z l
 |.dead=>()
 |.mapB k v=>([]:List (k.D×v.D))
def shapeB:Option Blk->BSh
 |some (.row t _ fr)=>.row t fr
 |some (.deep e _ none)=>.deep e none
 |some (.deep e _ (some (_,o,j)))=>.deep e (some (o,j))
 |some (.vars l)=>.vars (shapeL l)
 |some (.mapB k v _)=>.mapB k v
 |_=>.dead
theorem BSh.of_to:∀ (b:BSh) (a:Option Blk) (d:Dof b.T),b.of a=some d->a=some (b.to d)
 |.row t fr,a,d,h=>rowOf_some h
 |.deep e none,a,d,h=>deepOf0_some h
 |.deep e (some q),a,d,h=>deepOf1_some h
 |.vars l,a,d,h=>by
  have h:(varsOf a).bind (ShL.of l)=some d:=h
  obtain ⟨m,h1,h2⟩:=zB.1 h
  exact (varsOf_some h1).trans (congrArg (fun m=>some (Blk.vars m)) (ShL.of_to l m d h2))
 |.dead,a,d,h=>isDead_some h
 |.mapB k v,a,d,h=>mapOf_some h
def BShL.T:List BSh->Option Type
 | []=>none
 |a::l=>comb a.T (BShL.T l)
def BShL.to:(l:List BSh)->Dof (BShL.T l)->List (Option Blk)
 | [],_=>[]
 |a::l,x=>some (a.to (cfst a.T (BShL.T l) x))::BShL.to l (csnd a.T (BShL.T l) x)
def BShL.of:(l:List BSh)->List (Option Blk)->Option (Dof (BShL.T l))
 | [],[]=>some ()
 | [],_::_=>none
 |_::_,[]=>none
 |a::l,b::m=>(a.of b).bind fun x=>(BShL.of l m).map fun y=>cmk a.T (BShL.T l) x y
def BShL.z:(l:List BSh)->Dof (BShL.T l)
 | []=>()
 |a::l=>cmk a.T (BShL.T l) a.z (BShL.z l)
theorem BShL.of_to:∀ (l:List BSh) (m:List (Option Blk)) (d:Dof (BShL.T l)),BShL.of l m=some d->m=BShL.to l d
 | [],[],d,h=>rfl
 | [],_::_,d,h=>by cases h
 |_::_,[],d,h=>by cases h
 |a::l,b::m,d,h=>by
  have h:((a.of b).bind fun x=>(BShL.of l m).map fun y=>cmk a.T (BShL.T l) x y)=some d:=h
  obtain ⟨x,h1,h⟩:=zB.1 h
  obtain ⟨y,h2,h3⟩:=zM.1 h
  subst h3
  show b::m=some (a.to (cfst a.T (BShL.T l) _))::BShL.to l (csnd a.T (BShL.T l) _)
  rw [cfst_cmk,csnd_cmk,←BSh.of_to a b x h1,←BShL.of_to l m y h2]
theorem BShL.to_len:∀ (l:List BSh) (d),(BShL.to l d).length=l.length
 | [],_=>rfl
 |a::l,d=>by simp [BShL.to,BShL.to_len l]
inductive Why where
 |call (f:Nat) (as:List Sh) (bs:List BSh)
 |op (n:Nat) (as:List Sh)
 |other (n:Nat)
inductive Tr (α:Type):Type 1 where
 |ret (a:α)
 |fail (w:Why)
 |br (b:Bool) (x y:Tr α)
 |need (p:Prop) (x:Tr α)
 |bind (β:Type) (m:Option β) (d:β) (k:β->Tr α)
 |cs (A B:Type) (r:A⊕B) (a:A) (b:B) (k1:A->Tr α) (k2:B->Tr α)
namespace Tr
def andThen {α γ:Type}:Tr α->(α->Tr γ)->Tr γ
 |ret a,f=>f a
 |fail w,_=>fail w
 |br b x y,f=>br b (x.andThen f) (y.andThen f)
 |need p x,f=>need p (x.andThen f)
 |bind β m d k,f=>bind β m d fun b=>(k b).andThen f
 |cs A B r a b k1 k2,f=>cs A B r a b (fun x=>(k1 x).andThen f) (fun x=>(k2 x).andThen f)
open Classical in
def run {α:Type}:Tr α->Option α
 |ret a=>some a
 |fail _=>none
 |br b x y=>bif b then x.run else y.run
 |need p x=>if p then x.run else none
 |bind _ m _ k=>m.bind fun b=>(k b).run
 |cs _ _ r _ _ k1 k2=>match r with | .inl x=>(k1 x).run | .inr x=>(k2 x).run
def isFail {α:Type}:Tr α->Bool
 |fail _=>true
 |_=>false
theorem run_fail {α:Type} {t:Tr α} (h:t.isFail=true):t.run=none:=by
 cases t<;>first|rfl|cases h
def leaves {α:Type}:Tr α->List α
 |ret a=>[a]
 |fail _=>[]
 |br _ x y=>x.leaves++y.leaves
 |need _ x=>x.leaves
 |bind _ _ d k=>(k d).leaves
 |cs _ _ _ a b k1 k2=>(k1 a).leaves++(k2 b).leaves
theorem run_andThen {α γ:Type} (f:α->Tr γ):∀ t:Tr α,(t.andThen f).run=t.run.bind fun a=>(f a).run
 |ret a=>rfl
 |fail _=>rfl
 |br b x y=>by cases b<;>simp [andThen,run,run_andThen f x,run_andThen f y]
 |need p x=>by
  simp only [andThen,run,run_andThen f x]
  split<;>rfl
 |bind β m d k=>by
  simp only [andThen,run]
  cases m with
  |none=>rfl
  |some b=>simp [run_andThen f (k b)]
 |cs A B r a b k1 k2=>by
  simp only [andThen,run]
  cases r with
  |inl x=>exact run_andThen f (k1 x)
  |inr x=>exact run_andThen f (k2 x)
theorem run_some {α γ:Type} {f:α->Tr γ} {t:Tr α} {r:γ} (h:(t.andThen f).run=some r):∃ a,t.run=some a/\(f a).run=some r:=by
 rw [run_andThen] at h
 exact zB.1 h
end Tr
def itN {D R:Type} (f:D->Option (D⊕R)):Nat->D->Option R
 |0,_=>none
 |n+1,d=>match f d with
  |none=>none
  |some (.inl d')=>itN f n d'
  |some (.inr r)=>some r
open Classical in
def loopO {D R:Type} (f:D->Option (D⊕R)) (d:D):Option R:=
 if h:∃ r n,itN f n d=some r then some (Classical.choose h) else none
theorem itN_det {D R:Type} {f:D->Option (D⊕R)}:∀ {n m:Nat} {d:D} {r r':R},itN f n d=some r->itN f m d=some r'->r=r'
 |0,_,_,_,_,h,_=>by cases h
 |_+1,0,_,_,_,_,h=>by cases h
 |n+1,m+1,d,r,r',h,h'=>by
  simp only [itN] at h h'
  split at h
  ·cases h
  ·rename_i e;rw [e] at h';exact itN_det h h'
  ·rename_i e;rw [e] at h';cases h;cases h';rfl
theorem loopO_some {D R:Type} {f:D->Option (D⊕R)} {d:D} {r:R}:loopO f d=some r↔∃ n,itN f n d=some r:=by
 unfold loopO
 constructor
 ·intro h
  split at h
  ·rename_i hx
   cases h
   exact Classical.choose_spec hx
  ·cases h
 ·rintro ⟨n,hn⟩
  have hx:∃ r n,itN f n d=some r:=⟨r,n,hn⟩
  rw [dif_pos hx]
  obtain ⟨m,hm⟩:=Classical.choose_spec hx
  rw [itN_det hm hn]
theorem loopO_eq {D R:Type} (f:D->Option (D⊕R)) (d:D):loopO f d=match f d with|none=>none|some (.inl d')=>loopO f d' | some (.inr r)=>some r:=by
 cases h:f d with
 |none=>
  cases hl:loopO f d with
  |none=>rfl
  |some r=>
   obtain ⟨n,hn⟩:=loopO_some.1 hl
   cases n with
   |zero=>cases hn
   |succ n=>simp [itN,h] at hn
 |some q=>
  cases q with
  |inl d'=>
   simp only
   cases hl:loopO f d' with
   |none=>
    cases hl':loopO f d with
    |none=>rfl
    |some r=>
     obtain ⟨n,hn⟩:=loopO_some.1 hl'
     cases n with
     |zero=>cases hn
     |succ n=>
      simp only [itN,h] at hn
      rw [loopO_some.2 ⟨n,hn⟩] at hl
      cases hl
   |some r=>
    obtain ⟨n,hn⟩:=loopO_some.1 hl
    exact loopO_some.2 ⟨n+1,by simp only [itN,h];exact hn⟩
  |inr r=>exact loopO_some.2 ⟨1,by simp only [itN,h]⟩
structure CSt where
 vs:List (Nat×AV)
 bl:List (Option Blk)
def CSt.st (c:CSt):St:=⟨assoc c.vs,heapOf c.bl,c.bl.length⟩
def CSt.stF (fv:List (Nat×AV)) (c:CSt):St:=⟨assoc (fv++c.vs),heapOf c.bl,c.bl.length⟩
def cleanC0 (pin:Nat) (keep:List Nat) (s:St):Option CSt:=
 let vs:=keep.map fun k=>(k,s.env k)
 let live:=reach s.heap 8 (addNew (List.range pin) (vs.flatMap fun p=>idsA p.2))
 if closedB s.heap live then
  let f:=fun id=>(idxOf id live 0).getD 0
  some ⟨vs.map fun p=>(p.1,renA f p.2),live.map fun id=>(s.heap id).map (renB f)⟩
 else none
theorem cleanC0_eq {pin:Nat} {keep:List Nat} {s:St} {c:CSt} (h:cleanC0 pin keep s=some c):clean0 pin keep s=some c.st:=by
 unfold cleanC0 at h
 unfold clean0
 simp only at h ⊢
 split at h
 ·rename_i hc
  cases h
  rw [if_pos hc]
  simp [CSt.st]
 ·cases h
def cleanC (pin:Nat) (keep:List Nat) (s:St):Option CSt:=
 cleanC0 pin keep ⟨s.env,settle (addNew (List.range pin) ((keep.map fun k=>(k,s.env k)).flatMap fun p=>idsA p.2)) s.heap,s.next⟩
theorem cleanC_eq {pin:Nat} {keep:List Nat} {s:St} {c:CSt} (h:cleanC pin keep s=some c):clean pin keep s=some c.st:=by
 unfold cleanC at h
 unfold clean
 exact cleanC0_eq h
def VShL.T:List (Nat×Sh)->Option Type->Option Type
 | [],tl=>tl
 |a::l,tl=>comb a.2.T (VShL.T l tl)
def VShL.to:(l:List (Nat×Sh))->(tl:Option Type)->Dof (VShL.T l tl)->List (Nat×AV)
 | [],_,_=>[]
 |a::l,tl,x=>(a.1,a.2.to (cfst a.2.T (VShL.T l tl) x))::VShL.to l tl (csnd a.2.T (VShL.T l tl) x)
def VShL.rest:(l:List (Nat×Sh))->(tl:Option Type)->Dof (VShL.T l tl)->Dof tl
 | [],_,x=>x
 |a::l,tl,x=>VShL.rest l tl (csnd a.2.T (VShL.T l tl) x)
def VShL.of:(l:List (Nat×Sh))->(tl:Option Type)->List (Nat×AV)->Dof tl->Option (Dof (VShL.T l tl))
 | [],_,[],y=>some y
 | [],_,_::_,_=>none
 |_::_,_,[],_=>none
 |a::l,tl,b::m,y=>if a.1=b.1 then (a.2.of b.2).bind fun x=>(VShL.of l tl m y).map fun y=>cmk a.2.T (VShL.T l tl) x y else none
def VShL.z:(l:List (Nat×Sh))->(tl:Option Type)->Dof tl->Dof (VShL.T l tl)
 | [],_,y=>y
 |a::l,tl,y=>cmk a.2.T (VShL.T l tl) a.2.z (VShL.z l tl y)
theorem VShL.of_to:∀ (l:List (Nat×Sh)) (tl:Option Type) (m:List (Nat×AV)) (y:Dof tl) (d:Dof (VShL.T l tl)),VShL.of l tl m y=some d->m=VShL.to l tl d/\y=VShL.rest l tl d
 | [],_,[],y,d,h=>by cases h;exact ⟨rfl,rfl⟩
 | [],_,_::_,y,d,h=>by cases h
 |_::_,_,[],y,d,h=>by cases h
 |a::l,tl,b::m,y,d,h=>by
  have h:(if a.1=b.1 then (a.2.of b.2).bind fun x=>(VShL.of l tl m y).map fun y=>cmk a.2.T (VShL.T l tl) x y else none)=some d:=h
  split at h
  ·rename_i e
   obtain ⟨x,h1,h⟩:=zB.1 h
   obtain ⟨z,h2,h3⟩:=zM.1 h
   subst h3
   obtain ⟨i1,i2⟩:=VShL.of_to l tl m y z h2
   constructor
   ·show b::m=(a.1,a.2.to (cfst a.2.T (VShL.T l tl) _))::VShL.to l tl (csnd a.2.T (VShL.T l tl) _)
    rw [cfst_cmk,csnd_cmk,←Sh.of_to a.2 b.2 x h1,←i1,e]
   ·show y=VShL.rest l tl (csnd a.2.T (VShL.T l tl) _)
    rw [csnd_cmk];exact i2
  ·cases h
structure CSh where
 vs:List (Nat×Sh)
 bl:List BSh
def CSh.T (s:CSh):Option Type:=VShL.T s.vs (BShL.T s.bl)
def CSh.to (s:CSh) (d:Dof s.T):CSt:=⟨VShL.to s.vs (BShL.T s.bl) d,BShL.to s.bl (VShL.rest s.vs (BShL.T s.bl) d)⟩
def CSh.of (s:CSh) (c:CSt):Option (Dof s.T):=(BShL.of s.bl c.bl).bind fun y=>VShL.of s.vs (BShL.T s.bl) c.vs y
def CSh.z (s:CSh):Dof s.T:=VShL.z s.vs (BShL.T s.bl) (BShL.z s.bl)
def shapeC (c:CSt):CSh:=⟨c.vs.map fun p=>(p.1,shapeA p.2),c.bl.map shapeB⟩
theorem CSh.of_to {s:CSh} {c:CSt} {d:Dof s.T} (h:s.of c=some d):c=s.to d:=by
 unfold CSh.of at h
 obtain ⟨y,h1,h2⟩:=zB.1 h
 obtain ⟨i1,i2⟩:=VShL.of_to _ _ _ _ _ h2
 unfold CSh.to
 rw [←i1,←i2,←BShL.of_to _ _ _ h1]
def exEq:Exit->Exit->Bool
 |.normal,.normal=>true
 |.ret,.ret=>true
 |.exit a,.exit b=>decide (a=b)
 |_,_=>false
theorem exEq_eq {a b:Exit} (h:exEq a b=true):a=b:=by
 cases a<;>cases b<;>simp [exEq] at h ⊢<;>exact h
abbrev Alts:=List (Exit×CSh)
@[reducible] def Alts.D:Alts->Type
 | []=>Empty
 | [a]=>Dof a.2.T
 |a::b::l=>Dof a.2.T⊕Alts.D (b::l)
def Alts.z:(l:Alts)->Option (Alts.D l)
 | []=>none
 | [a]=>some a.2.z
 |a::_::_=>some (.inl a.2.z)
def altOne (a:Exit×CSh) (e:Exit) (c:CSt):Option (Dof a.2.T):=if exEq a.1 e then a.2.of c else none
def Alts.of:(l:Alts)->Exit->CSt->Option (Alts.D l)
 | [],_,_=>none
 | [a],e,c=>altOne a e c
 |a::b::l,e,c=>match altOne a e c with
  |some d=>some (.inl d)
  |none=>(Alts.of (b::l) e c).map .inr
def Alts.tr (fv:Exit->List (Nat×AV)):(l:Alts)->Alts.D l->Tr (Exit×St)
 | [],_=>.fail (.other 1)
 | [a],d=>.ret (a.1,(a.2.to d).stF (fv a.1))
 |a::b::l,r=>match Alts.z (b::l) with
  |none=>.fail (.other 2)
  |some z=>.cs (Dof a.2.T) (Alts.D (b::l)) r a.2.z z (fun d=>.ret (a.1,(a.2.to d).stF (fv a.1))) (fun q=>Alts.tr fv (b::l) q)
theorem altOne_some {a:Exit×CSh} {e:Exit} {c:CSt} {d} (h:altOne a e c=some d):a.1=e/\c=a.2.to d:=by
 unfold altOne at h
 split at h
 ·rename_i he;exact ⟨exEq_eq he,CSh.of_to h⟩
 ·cases h
theorem Alts.z_some:∀ (b:Exit×CSh) (l:Alts),∃ z,Alts.z (b::l)=some z
 |b,[]=>⟨_,rfl⟩
 |b,c::l=>⟨_,rfl⟩
theorem Alts.of_tr {fv:Exit->List (Nat×AV)}:∀ {l:Alts} {e:Exit} {c:CSt} {d:Alts.D l},Alts.of l e c=some d->(Alts.tr fv l d).run=some (e,c.stF (fv e))
 | [],_,_,_,h=>by cases h
 | [a],e,c,d,h=>by
  obtain ⟨h1,h2⟩:=altOne_some h
  simp only [Alts.tr,Tr.run]
  rw [h1,h2]
 |a::b::l,e,c,d,h=>by
  simp only [Alts.of] at h
  obtain ⟨z,hz⟩:=Alts.z_some b l
  cases ha:altOne a e c with
  |some x=>
   rw [ha] at h
   cases h
   obtain ⟨h1,h2⟩:=altOne_some ha
   simp only [Alts.tr,hz,Tr.run]
   rw [h1,h2]
  |none=>
   rw [ha] at h
   obtain ⟨q,h1,h2⟩:=zM.1 h
   subst h2
   simp only [Alts.tr,hz,Tr.run]
   exact Alts.of_tr h1
def altsOf:List (Exit×CSt)->Alts->Alts
 | [],acc=>acc
 |p::l,acc=>match Alts.of acc p.1 p.2 with
  |some _=>altsOf l acc
  |none=>altsOf l (acc++[(p.1,shapeC p.2)])
end
end
section
noncomputable section
structure Told where
 ina:List Sh
 inh:List BSh
 out:Sh
 outh:List BSh
 f:Dof (comb (ShL.T ina) (BShL.T inh))->Option (Dof (comb out.T (BShL.T outh)))
def convA (s:Sh) (a:AV):Option AV:=
 match s with
 |.dat u=>match a with
  |.dat t x=>some (.dat t x)
  |a=>(pack (fun _=>none) false u a).bind fun x=>if isMany a == isMany (.dat u x) then some (.dat u x) else none
 |_=>some a
def convL:List Sh->List AV->Option (List AV)
 |s::l,a::m=>(convA s a).bind fun b=>(convL l m).map (b::·)
 |_,m=>some m
def Told.meets (t:Told) (args:List AV) (pin:Nat) (h:Heap):Option (Dof (comb (ShL.T t.ina) (BShL.T t.inh))):=
 if pin=t.inh.length then
  (convL t.ina args).bind fun as=>(ShL.of t.ina as).bind fun x=>(BShL.of t.inh ((List.range pin).map h)).map fun y=>cmk (ShL.T t.ina) (BShL.T t.inh) x y
 else none
def Told.tr (t:Told) (d:Dof (comb (ShL.T t.ina) (BShL.T t.inh))):Tr (AV×Heap×Nat):=
 .bind (Dof (comb t.out.T (BShL.T t.outh))) (t.f d) (cmk t.out.T (BShL.T t.outh) t.out.z (BShL.z t.outh)) fun r=>
  .ret (t.out.to (cfst t.out.T (BShL.T t.outh) r),heapOf (BShL.to t.outh (csnd t.out.T (BShL.T t.outh) r)),t.outh.length)
def tryT:List Told->List AV->Nat->Heap->Tr (AV×Heap×Nat)
 | [],args,pin,h=>.fail (.call 0 (shapeL args) ((List.range pin).map fun j=>shapeB (h j)))
 |t::l,args,pin,h=>match t.meets args pin h with
  |some d=>t.tr d
  |none=>tryT l args pin h
def eqD (t:Ty) (x:t.D) (u:Ty) (y:u.D) (k:Prop):Prop:=match datOf t (.dat u y) with
 |some y'=>x=y'/\k
 |none=>False
def eqAs:List AV->List AV->Prop->Prop
 | [],[],k=>k
 |a::l,b::m,k=>match a,b with
  |.dat t x,.dat u y=>eqD t x u y (eqAs l m k)
  |.nilS,.nilS=>eqAs l m k
  |.nilP,.nilP=>eqAs l m k
  |.nilF,.nilF=>eqAs l m k
  |.full i,.full j=>if i=j then eqAs l m k else False
  |.ptr i p,.ptr j q=>if i=j/\p.off=q.off/\p.path=q.path then eqAs l m k else False
  |.mp b t x,.mp c u y=>b=c/\eqD t x u y (eqAs l m k)
  |_,_=>False
 |_,_,_=>False
def eqBs:List (Option Blk)->List (Option Blk)->Prop
 | [],[]=>True
 |some a::l,some b::m=>match a,b with
  |.vars cs,.vars ds=>eqAs cs ds (eqBs l m)
  |.row t xs fr,.row u ys fs=>if fr=fs then eqD (.sl t) xs (.sl u) ys (eqBs l m) else False
  |.dead,.dead=>eqBs l m
  |_,_=>False
 |_,_=>False
def Told.trR (t:Told) (d:Dof (comb (ShL.T t.ina) (BShL.T t.inh))):Tr (AV×Heap×Nat):=
 .bind (Dof (comb t.out.T (BShL.T t.outh))) (t.f d) (cmk t.out.T (BShL.T t.outh) t.out.z (BShL.z t.outh)) fun r=>
  .need (eqBs (BShL.to t.outh (csnd t.out.T (BShL.T t.outh) r)) (BShL.to t.inh (csnd (ShL.T t.ina) (BShL.T t.inh) d))) (.ret (t.out.to (cfst t.out.T (BShL.T t.outh) r),heapOf (BShL.to t.inh (csnd (ShL.T t.ina) (BShL.T t.inh) d)),t.outh.length))
def tryR:List Told->List AV->Nat->Heap->Tr (AV×Heap×Nat)
 | [],args,pin,h=>.fail (.call 0 (shapeL args) ((List.range pin).map fun j=>shapeB (h j)))
 |t::l,args,pin,h=>match t.meets args pin h with
  |some d=>t.trR d
  |none=>tryR l args pin h
structure TCx where
 P:Program
 T:FuncId->List Told
 own:FuncId->List Bool
 deep:TypeId->Bool
 ro:FuncId->Bool
def tRun (T:FuncId->List Told) (ro:FuncId->Bool) (f:FuncId) (args:List AV) (pin:Nat) (h:Heap):Tr (AV×Heap×Nat):=match ro f with
 |true=>tryR (T f) args pin h
 |false=>tryT (T f) args pin h
theorem eqD_eq {t:Ty} {x:t.D} {u:Ty} {y:u.D} {k:Prop} (h:eqD t x u y k):AV.dat t x=.dat u y/\k:=by
 unfold eqD at h
 cases hd:datOf t (.dat u y) with
 |none=>rw [hd] at h;cases h
 |some y'=>
  rw [hd] at h
  obtain ⟨rfl,hk⟩:=h
  exact ⟨(datOf_some hd).symm,hk⟩
theorem eqAs_eq:∀ (l m:List AV) {k:Prop},eqAs l m k->l=m/\k
 | [],[],k,h=>⟨rfl,h⟩
 | [],b::m,k,h=>by cases h
 |a::l,[],k,h=>by cases h
 |a::l,b::m,k,h=>by
  unfold eqAs at h
  split at h
  ·obtain ⟨h1,h2⟩:=eqD_eq h
   obtain ⟨h3,h4⟩:=eqAs_eq l m h2
   exact ⟨by rw [h1,h3],h4⟩
  ·obtain ⟨h3,h4⟩:=eqAs_eq l m h
   exact ⟨by rw [h3],h4⟩
  ·obtain ⟨h3,h4⟩:=eqAs_eq l m h
   exact ⟨by rw [h3],h4⟩
  ·obtain ⟨h3,h4⟩:=eqAs_eq l m h
   exact ⟨by rw [h3],h4⟩
  ·split at h
   ·rename_i e
    obtain ⟨h3,h4⟩:=eqAs_eq l m h
    exact ⟨by rw [e,h3],h4⟩
   ·cases h
  ·split at h
   ·rename_i e
    obtain ⟨h3,h4⟩:=eqAs_eq l m h
    refine ⟨?_,h4⟩
    rename_i i p j q
    obtain ⟨e1,e2,e3⟩:=e
    cases p;cases q
    simp only at e2 e3
    rw [e1,e2,e3,h3]
   ·cases h
  ·obtain ⟨h0,h⟩:=h
   obtain ⟨h1,h2⟩:=eqD_eq h
   obtain ⟨h3,h4⟩:=eqAs_eq l m h2
   cases h1
   exact ⟨by rw [h0,h3],h4⟩
  ·cases h
theorem eqBs_eq:∀ (l m:List (Option Blk)),eqBs l m->l=m
 | [],[],_=>rfl
 | [],_::_,h=>by cases h
 |none::_,[],h=>by cases h
 |some _::_,[],h=>by cases h
 |none::_,_::_,h=>by cases h
 |some _::_,none::_,h=>by cases h
 |some a::l,some b::m,h=>by
  unfold eqBs at h
  split at h
  ·obtain ⟨h1,h2⟩:=eqAs_eq _ _ h
   rw [h1,eqBs_eq l m h2]
  ·split at h
   ·rename_i e
    obtain ⟨h1,h2⟩:=eqD_eq h
    cases h1
    rw [e,eqBs_eq l m h2]
   ·cases h
  ·rw [eqBs_eq l m h]
  ·cases h
theorem heapOf_range' {pin:Nat} {h:Heap} {l:List (Option Blk)} (e:(List.range pin).map h=l) {j:Nat} (hj:j<pin):heapOf l j=h j:=by
 subst e
 unfold heapOf
 simp [hj]
theorem tryR_keeps:∀ (l:List Told) {args:List AV} {pin:Nat} {h:Heap} {r h1 n1},(tryR l args pin h).run=some (r,h1,n1)->n1=pin/\∀ j,j<pin->h1 j=h j
 | [],args,pin,h,r,h1,n1,e=>by simp [tryR,Tr.run] at e
 |t::l,args,pin,h,r,h1,n1,e=>by
  unfold tryR at e
  split at e
  ·rename_i d hd
   unfold Told.meets at hd
   split at hd
   ·rename_i hpin
    obtain ⟨as,m1,hm⟩:=zB.1 hd
    obtain ⟨x,m2,hm⟩:=zB.1 hm
    obtain ⟨y,m3,m4⟩:=zM.1 hm
    subst m4
    unfold Told.trR at e
    simp only [Tr.run] at e
    obtain ⟨q,q1,q2⟩:=zB.1 e
    split at q2
    ·rename_i hq
     simp only [zS,zP] at q2
     obtain ⟨rfl,rfl,rfl⟩:=q2
     have hto:=eqBs_eq _ _ hq
     have hlen:=congrArg List.length hto
     rw [BShL.to_len,BShL.to_len] at hlen
     refine ⟨by omega,fun j hj=>?_⟩
     rw [csnd_cmk]
     exact heapOf_range' (BShL.of_to _ _ _ m3) hj
    ·cases q2
   ·cases hd
  ·exact tryR_keeps l e
theorem tRun_ro {T:FuncId->List Told} {ro:FuncId->Bool} {f:FuncId} {args:List AV} {pin:Nat} {h:Heap} {r h1 n1} (hr:ro f=true) (e:(tRun T ro f args pin h).run=some (r,h1,n1)):n1=pin/\∀ j,j<pin->h1 j=h j:=by
 unfold tRun at e
 rw [hr] at e
 exact tryR_keeps _ e
def named {α:Type} (f:Nat):Tr α->Tr α
 |.fail (.call _ as bs)=>.fail (.call f as bs)
 |t=>t
theorem named_run {α:Type} (f:Nat) (t:Tr α):(named f t).run=t.run:=by
 unfold named
 split<;>rfl
def TCx.cx (c:TCx):Cx:=⟨c.P,fun f args pin h=>(tRun c.T c.ro f args pin h).run,c.own,c.deep,c.ro,fun f args pin h r h1 n1 hr e=>tRun_ro hr e⟩
def tCall0 (cx:TCx) (f:FuncId) (args:List AV) (h:Heap) (id0:Nat):Tr (AV×Heap×Bool):=
 match exportAll h (cx.own f) args with
 |none=>.fail (.call f (shapeL args) [])
 |some as=>
  let moved:=reach h 8 (addNew [] (idsL as))
  let lent:=(lentRows (cx.own f) args).filter rowOnly
  if closedB h moved&&nodupB moved&&(idsL as).all moved.contains&&(idsL lent).all (fun i=>!moved.contains i)&&moved.all (fun i=>decide (i<id0))&&lent.all (isRowD h) then
   let toN:=fun id=>(idxOf id moved 0).getD 0
   (named f (tRun cx.T cx.ro f (renL toN as) moved.length (subH h moved toN))).andThen fun q=>
    let h2:=mergeH h q.2.1 moved id0 q.2.2
    let fr:=hasRow lent&&!(noSl q.1&&(List.range q.2.2).all fun j=>noSlB (q.2.1 j))
    if q.2.2 - moved.length<=1000&&moved.length<=q.2.2 then .ret (renA (backOf moved id0) q.1,if fr then freezeL lent h2 else h2,fr||(moved != []&&!cx.ro f)) else .fail (.other 3)
  else .fail (.call f (shapeL args) [])
def tCall (cx:TCx) (f:FuncId) (args:List AV) (h:Heap) (id0:Nat):Tr (AV×Heap×Bool):=
 let t:=tCall0 cx f args h id0
 match t.isFail with
 |true=>
  let l:=reach h 8 (addNew [] (idsL args))
  match l.any (holeB h) with
  |true=>(tCall0 cx f args (closeIds l h) id0).andThen fun r=>.ret (r.1,r.2.1,true)
  |false=>t
 |false=>t
abbrev Facts:=List (Nat×Bool)
def fact (fs:Facts) (g:Nat):Option Bool:=(fs.find? fun p=>p.1 == g).map (·.2)
def factO (fs:Facts):Operand->Option Bool
 |.tmp g=>fact fs g
 |_=>none
def forget (fs:Facts) (d:Option Nat):Facts:=match d with|some d=>fs.filter fun p=>!(p.1 == d)|none=>fs
def factV (fs:Facts):Operand->Option Bool
 |.tmp g=>fact fs g
 |.const v=>match v with | .bool b=>some b|_=>none
 |_=>none
def newFact (fs:Facts) (o:Op):Option Bool:=
 match o with
 |.move x=>factV fs x
 |.assign x=>factV fs x
 |.pick c a b=>match factO fs c with
  |some true=>factV fs a
  |some false=>factV fs b
  |none=>none
 |.unOp op _ x=>match op with | .not=>(factV fs x).map not|_=>none
 |_=>none
def learn (fs:Facts) (o:Op) (d:Option Nat):Facts:=
 match d with
 |none=>fs
 |some k=>match newFact fs o with
  |some b=>(k,b)::forget fs d
  |none=>forget fs d
def litOK (op:BinOp) (y:Operand):Bool:=
 match y with
 |.const (.int _ n)=>match op with
  |.shl=>decide (0<=n)
  |.shr=>decide (0<=n)
  |.quo=>decide (n≠0)
  |.rem=>decide (n≠0)
  |_=>false
 |_=>false
def ofQ (lit:Bool) (w:Why):QRes->Tr (AV×Heap×Bool)
 |none=>.fail w
 |some (none,r)=>.ret r
 |some (some c,r)=>match lit with
  |true=>.ret r
  |false=>.need c (.ret r)
def pickT (x:Bool) (a b:AV) (h:Heap):Tr (AV×Heap×Bool):=
 match a with
 |.dat t u=>match datOf t b with
  |some u'=>.ret (.dat t (cond x u u'),h,false)
  |none=>.br x (.ret (a,h,false)) (.ret (b,h,false))
 |_=>.br x (.ret (a,h,false)) (.ret (b,h,false))
def tOp (cx:TCx) (fs:Facts) (ρ:Operand->AV) (o:Op) (T:TypeId) (h:Heap) (id0:Nat):Tr (AV×Heap×Bool):=
 match o with
 |.pick c a b=>match factO fs c with
  |some true=>.ret (ρ a,h,false)
  |some false=>.ret (ρ b,h,false)
  |none=>match ρ c with
   |.dat .bool x=>pickT x (ρ a) (ρ b) h
   |_=>.fail (.other 4)
 |.call c=>match c.callee with
  |.value f=>match ρ f with
   |.fn g caps=>tCall cx g (c.args.toList.map ρ++caps) h id0
   |a=>.fail (.op id0 [shapeA a])
  |_=>ofQ false (.op id0 (shapeL (c.args.toList.map ρ))) (qOp cx.cx ρ (.call c) T h id0)
 |.binOp op t x y ty=>ofQ (litOK op y) (.op id0 [shapeA (ρ x),shapeA (ρ y)]) (qBin cx.P t op (ρ x) (ρ y) h)
 |o=>ofQ false (.op id0 (shapeL (o.operands.toList.map ρ))) (qOp cx.cx ρ o T h id0)
def tOps (cx:TCx) (ops:Array Oper) (base:Nat):List Oper->Nat->Facts->(Nat->AV)->Heap->Tr ((Nat->AV)×Heap)
 | [],_,_,env,h=>.ret (env,h)
 |o::l,k,fs,env,h=>
  let doIt:=fun (fs:Facts) (env:Nat->AV)=>(tOp cx fs (evalO env) o.op o.type h (base+k*W)).andThen fun q=>tOps cx ops base l (k+1) (learn fs o.op o.dst) (put env o.dst q.1) q.2.1
  let skip:=fun (fs:Facts) (env:Nat->AV)=>tOps cx ops base l (k+1) (forget fs o.dst) (put env o.dst (.tup [])) h
  match o.guard with
  |none=>doIt fs env
  |some (j,want)=>match dstOf ops j with
   |none=>.fail (.other 5)
   |some g=>match env g with
    |.dat .bool b=>match fact fs g with
     |some true=>match want with
      |true=>doIt fs env
      |false=>skip fs env
     |some false=>match want with
      |true=>skip fs env
      |false=>doIt fs env
     |none=>match want with
      |true=>.br b (doIt ((g,true)::fs) (put env (some g) (.dat .bool true))) (skip ((g,false)::fs) (put env (some g) (.dat .bool false)))
      |false=>.br b (skip ((g,true)::fs) (put env (some g) (.dat .bool true))) (doIt ((g,false)::fs) (put env (some g) (.dat .bool false)))
    |.tup []=>skip fs env
    |_=>.fail (.other 6)
def tOpsF (cx:TCx) (pv:Nat->Bool) (ops:Array Oper) (base:Nat):List Oper->Nat->Facts->(Nat->AV)->Heap->List Fl->Tr ((Nat->AV)×Heap×List Fl)
 | [],_,_,env,h,acc=>.ret (env,h,acc.reverse)
 |o::l,k,fs,env,h,acc=>
  let doIt:=fun (fs:Facts) (env:Nat->AV)=>(tOp cx fs (evalO env) o.op o.type h (base+k*W)).andThen fun q=>match tchBad cx.own ops base env h o q.2.2 with
   |true=>.fail (.other 16)
   |false=>tOpsF cx pv ops base l (k+1) (learn fs o.op o.dst) (put env o.dst q.1) q.2.1 ((q.2.2,markOf cx.deep pv base env o.op q.2.2,markOf cx.deep (fun _=>false) base env o.op q.2.2)::acc)
  let skip:=fun (fs:Facts) (env:Nat->AV)=>tOpsF cx pv ops base l (k+1) (forget fs o.dst) (put env o.dst (.tup [])) h ((false,true,true)::acc)
  match o.guard with
  |none=>doIt fs env
  |some (j,want)=>match dstOf ops j with
   |none=>.fail (.other 5)
   |some g=>match env g with
    |.dat .bool b=>match fact fs g with
     |some true=>match want with
      |true=>doIt fs env
      |false=>skip fs env
     |some false=>match want with
      |true=>skip fs env
      |false=>doIt fs env
     |none=>match want with
      |true=>.br b (doIt ((g,true)::fs) (put env (some g) (.dat .bool true))) (skip ((g,false)::fs) (put env (some g) (.dat .bool false)))
      |false=>.br b (skip ((g,true)::fs) (put env (some g) (.dat .bool true))) (doIt ((g,false)::fs) (put env (some g) (.dat .bool false)))
    |.tup []=>skip fs env
    |_=>.fail (.other 6)
inductive An where
 |n
 |t (l r:An)
 |k (fix norm:List Nat) (ex:List (Nat×List Nat)) (ret:List Nat) (l r:An)
def An.l:An->An | .n=>.n | .t a _=>a | .k _ _ _ _ a _=>a
def An.r:An->An | .n=>.n | .t _ a=>a | .k _ _ _ _ _ a=>a
def An.fix:An->List Nat | .k f _ _ _ _ _=>f|_=>[]
def An.keep:An->Exit->Option (List Nat)
 |.k _ norm ex ret _ _,e=>match e with
  |.normal=>some norm
  |.ret=>some ret
  |.exit j=>(ex.find? fun p=>p.1 == j).map (·.2)
  |_=>none
 |_,_=>none
def An.isK:An->Bool | .k ..=>true|_=>false
def asg:Code->Nat->Bool
 |.region _ ops _,k=>ops.toList.any fun o=>match o.dst with|some d=>Nat.beq d k|none=>false
 |.seq x y,k=>asg x k||asg y k
 |.cond _ x y,k=>asg x k||asg y k
 |.block _ x,k=>asg x k
 |.loop x,k=>asg x k
 |.scope x,k=>asg x k
 |_,_=>false
def isDat:AV->Bool | .dat ..=>true|_=>false
def isNorm:Exit->Bool | .normal=>true|_=>false
def isGoto:Exit->Bool | .goto _=>true|_=>false
def fixVals (x:Code) (a:An) (s:St):List (Nat×AV):=(a.fix.filter fun k=>!(asg x k)&&isDat (s.env k)).map fun k=>(k,s.env k)
def fvE (a:An) (fv:List (Nat×AV)) (e:Exit):List (Nat×AV):=match a.keep e with|some ks=>fv.filter fun p=>ks.contains p.1|none=>[]
def sameDat:List (Nat×AV)->List (Nat×AV)->Bool
 | [],_=>true
 |p::l,q::m=>(match p.2 with | .dat t _=>(datOf t q.2).isSome|_=>false)&&sameDat l m
 |_::_,[]=>false
def pack1 (pin:Nat) (a:An) (fv:List (Nat×AV)) (p:Exit×St):Option (Exit×CSt):=
 (a.keep p.1).bind fun ks=>
  let f:=fvE a fv p.1
  (cleanC pin (f.map (·.1)++ks.filter fun k=>!(f.any fun q=>q.1 == k)) p.2).bind fun c=>
   if sameDat f c.vs then some (p.1,⟨c.vs.drop f.length,c.bl⟩) else none
def toAlt (pin:Nat) (a:An) (fv:List (Nat×AV)) (al:Alts) (p:Exit×St):Tr (Alts.D al):=
 match pack1 pin a fv p with
 |none=>.fail (.other 7)
 |some (e,c)=>match Alts.of al e c with
  |none=>.fail (.other 8)
  |some d=>.ret d
def joinT (pin:Nat) (a:An) (fv:List (Nat×AV)) (t:Tr (Exit×St)):Tr (Exit×St):=
 match a.isK with
 |false=>t
 |true=>
  let ls:=t.leaves
  if (ls.filter fun p=>isNorm p.1).length<2 then t else
  let al:=altsOf (ls.filterMap (pack1 pin a fv)) []
  if al.length<ls.length then
   match Alts.z al with
   |none=>t
   |some z=>.bind (Alts.D al) ((t.andThen (toAlt pin a fv al)).run) z (Alts.tr (fvE a fv) al)
  else t
def emptyBlk (dp:Bool) (t:Ty):Blk:=match dp with
 |true=>match deepK t with
  |true=>.deep t [] none
  |false=>.row t [] false
 |false=>.row t [] false
def promSlot (dp:Bool) (t:Ty) (k:Nat) (s:St):St:=
 match s.env k with
 |.nilS=>⟨put s.env (some k) (.full s.next),s.heap.set s.next (emptyBlk dp t),s.next+1⟩
 |_=>s
def promLeaf (dp:Bool) (t:Ty) (id i:Nat) (s:St):St:=
 match s.heap id with
 |some (.vars cs)=>match cs[i]? with
  |some .nilS=>if id=s.next then s else ⟨s.env,(s.heap.set id (.vars (cs.set i (.full s.next)))).set s.next (emptyBlk dp t),s.next+1⟩
  |_=>s
 |_=>s
def promPart (dp:Bool) (t:Ty) (k i:Nat) (s:St):St:=
 match s.env k with
 |.agg xs=>match xs[i]? with
  |some .nilS=>⟨put s.env (some k) (.agg (xs.set i (.full s.next))),s.heap.set s.next (emptyBlk dp t),s.next+1⟩
  |_=>s
 |_=>s
def mpOf (h:Heap) (t:Ty):AV->Option (AV×Heap)
 |.nilP=>some (.mp false t t.dflt,h)
 |.ptr j p=>match p.path,h j with
  | [],some (.vars cs)=>match takeL cs p.off t.sz with
   |some l=>match packU (fun _=>none) false t l with
    |some (x,[])=>some (.mp true t x,h.set j .dead)
    |_=>none
   |none=>none
  |_,_=>none
 |_=>none
def promMp (t:Ty) (id i:Nat) (s:St):St:=
 match s.heap id with
 |some (.vars cs)=>match cs[i]? with
  |some a=>match mpOf s.heap t a with
   |some (b,h')=>match h' id with
    |some (.vars cs')=>⟨s.env,h'.set id (.vars (cs'.set i b)),s.next⟩
    |_=>s
   |none=>s
  |none=>s
 |_=>s
def promMove (id i:Nat) (s:St):St:=
 match s.heap id with
 |some (.vars cs)=>match cs[i]? with
  |some (.full j)=>match s.heap j with
   |some (.row t xs false)=>if id=s.next\/j=s.next then s else ⟨s.env,((s.heap.set j .dead).set id (.vars (cs.set i (.full s.next)))).set s.next (.row t xs false),s.next+1⟩
   |_=>s
  |_=>s
 |_=>s
inductive Prom where
 |slot (dp:Bool) (t:Ty) (k:Nat)
 |leaf (dp:Bool) (t:Ty) (id i:Nat)
 |part (dp:Bool) (t:Ty) (k i:Nat)
 |mp (t:Ty) (id i:Nat)
 |move (id i:Nat)
def Prom.go:Prom->St->St
 |.slot dp t k,s=>promSlot dp t k s
 |.leaf dp t id i,s=>promLeaf dp t id i s
 |.part dp t k i,s=>promPart dp t k i s
 |.mp t id i,s=>promMp t id i s
 |.move id i,s=>promMove id i s
def promAll:List Prom->St->St
 | [],s=>s
 |p::l,s=>promAll l (p.go s)
def rowTy (bl:List (Option Blk)) (id:Nat):Option (Bool×Ty):=match bl[id]? with|some (some (.row t _ _))=>some (false,t)|some (some (.deep t _ _))=>some (true,t)|_=>none
def promLs (bl:List (Option Blk)) (id:Nat):Nat->List AV->List AV->List Prom
 |i,a::l,b::m=>(match a,b with
  |.nilS,.full j=>match rowTy bl j with|some q=>[.leaf q.1 q.2 id i]|none=>[]
  |.full k,.full j=>if Nat.beq k j then [] else [.move id i]
  |.nilP,.mp _ t _=>[.mp t id i]
  |.ptr _ _,.mp _ t _=>[.mp t id i]
  |_,_=>[])++promLs bl id (i+1) l m
 |_,_,_=>[]
def promVs (c c':CSt):List (Nat×AV)->List (Nat×AV)->List Prom
 |a::l,b::m=>(match a.2,b.2 with
  |.nilS,.full j=>match rowTy c'.bl j with|some q=>[.slot q.1 q.2 a.1]|none=>[]
  |.ptr id _,.ptr id' _=>match c.bl[id]?,c'.bl[id']? with
   |some (some (.vars xs)),some (some (.vars ys))=>promLs c'.bl id 0 xs ys
   |_,_=>[]
  |_,_=>[])++promVs c c' l m
 |_,_=>[]
def promPins (c c':CSt):Nat->List Prom
 |0=>[]
 |n+1=>promPins c c' n++(match c.bl[n]?,c'.bl[n]? with
   |some (some (.vars xs)),some (some (.vars ys))=>promLs c'.bl n 0 xs ys
   |_,_=>[])
def promOf (pin:Nat) (c:CSt):List (Option (Exit×CSt))->List Prom
 | []=>[]
 |some (.normal,c')::l=>match promPins c c' pin++promVs c c' c.vs c'.vs with
  | []=>promOf pin c l
  |ps=>ps
 |_::l=>promOf pin c l
def widen (pin:Nat) (a:An) (fv:List (Nat×AV)) (body:St->Tr (Exit×St)):Nat->CSt->Option CSt
 |0,c=>some c
 |n+1,c=>match promOf pin c ((body (c.stF fv)).leaves.map (pack1 pin a fv)) with
  | []=>some c
  |ps=>(pack1 pin a fv (.normal,promAll ps (c.stF fv))).bind fun q=>widen pin a fv body n q.2
def stepT (pin:Nat) (a:An) (fv:List (Nat×AV)) (sh:CSh) (al:Alts) (p:Exit×St):Tr (Dof sh.T⊕Alts.D al):=
 match pack1 pin a fv p with
 |none=>.fail (.other 9)
 |some (e,c)=>match isNorm e with
  |true=>match sh.of c with
   |none=>.fail (.call 10 ((shapeC c).vs.map (·.2)) (shapeC c).bl)
   |some d=>.ret (.inl d)
  |false=>match Alts.of al e c with
   |none=>.fail (.other 11)
   |some d=>.ret (.inr d)
def loopT (pin:Nat) (a:An) (fv0:List (Nat×AV)) (body:St->Tr (Exit×St)) (s:St):Tr (Exit×St):=
 let fv:=fvE a fv0 .normal
 match (pack1 pin a fv (.normal,s)).bind fun q=>widen pin a fv body 3 q.2 with
 |none=>.fail (.other 12)
 |some c=>
  let sh:=shapeC c
  match sh.of c with
  |none=>.fail (.other 13)
  |some d=>
   let al:=altsOf (((body (c.stF fv)).leaves.filter fun p=>!isNorm p.1).filterMap (pack1 pin a fv)) []
   match Alts.z al with
   |none=>.fail (.other 14)
   |some z=>.bind (Alts.D al) (loopO (fun d=>((body ((sh.to d).stF fv)).andThen (stepT pin a fv sh al)).run) d) z (Alts.tr (fvE a fv) al)
def unblockE (id:Nat):Exit->Exit
 |.exit j=>if j=id then .normal else .exit j
 |e=>e
def tCode (cx:TCx) (pin:Nat):Code->An->St->Tr (Exit×St)
 |.skip,a,s=>.ret (.normal,s)
 |.region id ops false,a,s=>joinT pin a (fixVals (.region id ops false) a s) ((tOps cx ops s.next ops.toList 0 [] s.env s.heap).andThen fun q=>.ret (.normal,⟨q.1,q.2,s.next+ops.size*W⟩))
 |.region id ops true,a,s=>joinT pin a (fixVals (.region id ops false) a s) ((tOpsF cx (stIn ops s.env) ops s.next ops.toList 0 [] s.env (preH cx.P ops s.next (trimH s.next s.heap)) []).andThen fun q=>match drawOK cx.P ops q.2.2 with
  |true=>.ret (.normal,⟨q.1,q.2.1,s.next+ops.size*W⟩)
  |false=>.fail (.other 15))
 |.seq x y,a,s=>(tCode cx pin x a.l s).andThen fun q=>match q.1 with
  |.normal=>tCode cx pin y a.r q.2
  |e=>.ret (e,q.2)
 |.cond c x y,a,s=>match c with
  |.const (.bool b)=>match b with
   |true=>tCode cx pin x a.l s
   |false=>tCode cx pin y a.r s
  |c=>match evalO s.env c with
   |.dat .bool b=>joinT pin a (fixVals (.cond c x y) a s) (.br b (tCode cx pin x a.l s) (tCode cx pin y a.r s))
   |_=>.fail (.other 16)
 |.block id x,a,s=>joinT pin a (fixVals (.block id x) a s) ((tCode cx pin x a.l s).andThen fun q=>.ret (unblockE id q.1,q.2))
 |.loop x,a,s=>loopT pin a (fixVals (.loop x) a s) (tCode cx pin x a.l) s
 |.exit id,a,s=>.ret (.exit id,s)
 |.ret,a,s=>.ret (.ret,s)
 |.label _,a,s=>.ret (.normal,s)
 |.goto l,a,s=>.ret (.goto l,s)
 |.scope x,a,s=>(tCode cx pin x a.l s).andThen fun q=>match isGoto q.1 with
  |true=>.fail (.other 22)
  |false=>.ret (q.1,q.2)
 |_,_,_=>.fail (.other 17)
def tG (l:Nat) (t:Tr (Exit×St)):Tr (Exit×St):=t.andThen fun q=>match swapG l q.1 with
 |some e=>.ret (e,q.2)
 |none=>.fail (.other 23)
def tBody (cx:TCx) (pin:Nat):Code->An->St->Tr (Exit×St)
 |.scope x,a,s=>match goIn x with
  |some (l,rest)=>(tG l (tCode cx pin x a.l s)).andThen fun q=>match isNorm q.1 with
   |true=>loopT pin a.r (fixVals (.loop rest) a.r q.2) (fun s=>tG l (tCode cx pin rest a.r.l s)) q.2
   |false=>.ret (q.1,q.2)
  |none=>tCode cx pin (.scope x) a s
 |.seq x y,a,s=>(tCode cx pin x a.l s).andThen fun q=>match q.1 with
  |.normal=>tBody cx pin y a.r q.2
  |e=>.ret (e,q.2)
 |c,a,s=>tCode cx pin c a s
mutual
def finA (h:Heap):Sh->AV->Option (AV×Heap)
 |.dat u,a=>match a with
  |.dat t x=>some (.dat t x,h)
  |a=>let h1:=closeIds (idsL a.leaves) h
   (pack (freezeL a.leaves h1) true u a).bind fun x=>if isMany a == isMany (.dat u x) then some (.dat u x,freezeL a.leaves h1) else none
 |.tup ss,.tup as=>(finL h ss as).map fun q=>(.tup q.1,q.2)
 |_,a=>some (a,h)
def finL (h:Heap):List Sh->List AV->Option (List AV×Heap)
 |s::ss,a::as=>(finA h s a).bind fun q=>(finL q.2 ss as).map fun r=>(q.1::r.1,r.2)
 |_,as=>some (as,h)
end
def partProm (outh:List BSh) (k:Nat):Nat->List Sh->List Prom
 |_,[]=>[]
 |i,.full j::l=>(match outh[j]? with
  |some (.row t false)=>[.part false t k i]
  |some (.deep t none)=>[.part true t k i]
  |_=>[])++partProm outh k (i+1) l
 |i,_::l=>partProm outh k (i+1) l
def outProm (outh:List BSh):Nat->List Sh->List Prom
 |_,[]=>[]
 |k,.full j::l=>(match outh[j]? with
  |some (.row t false)=>[.slot false t k]
  |some (.deep t none)=>[.slot true t k]
  |_=>[])++outProm outh (k+1) l
 |k,.agg ss::l=>partProm outh k 0 ss++outProm outh (k+1) l
 |k,_::l=>outProm outh (k+1) l
def outL (n:Nat):Sh->List Sh
 |.tup l=>if n=1 then [.tup l] else l
 |s=>[s]
def deadOut:List BSh->Nat->Heap->Heap
 | [],_,h=>h
 |.dead::l,j,h=>deadOut l (j+1) (h.set j .dead)
 |_::l,j,h=>deadOut l (j+1) h
def pinLs (pin:Nat) (outh:List BSh) (id:Nat):Nat->List Sh->List Prom
 |_,[]=>[]
 |i,.full j::l=>(match outh[j]? with
  |some (.row t false)=>if j<pin then [.leaf false t id i] else [.leaf false t id i,.move id i]
  |some (.deep t none)=>[.leaf true t id i]
  |_=>[])++pinLs pin outh id (i+1) l
 |i,.mp t::l=>.mp t id i::pinLs pin outh id (i+1) l
 |i,_::l=>pinLs pin outh id (i+1) l
def pinProm (pin:Nat) (outh:List BSh):Nat->List BSh->List Prom
 |_,[]=>[]
 |id,.vars ss::l=>pinLs pin outh id 0 ss++pinProm pin outh (id+1) l
 |id,_::l=>pinProm pin outh (id+1) l
def ptrLs (outh:List BSh) (id:Nat):Nat->List Sh->List Prom
 |_,[]=>[]
 |i,.full j::l=>(match outh[j]? with
  |some (.row t false)=>[.leaf false t id i]
  |_=>[])++ptrLs outh id (i+1) l
 |i,_::l=>ptrLs outh id (i+1) l
def ptrProm (outh:List BSh):List Sh->List AV->List Prom
 |.ptr j _ _::ss,.ptr id _::as=>(match outh[j]? with
  |some (.vars l)=>ptrLs outh id 0 l
  |_=>[])++ptrProm outh ss as
 |_::ss,_::as=>ptrProm outh ss as
 |_,_=>[]
def endT (P:Program) (fn:Func) (out:Sh) (outh:List BSh) (pin:Nat) (s:St):Option (Dof (comb out.T (BShL.T outh))):=
 (exResult P s.heap s.env fn.results.toList).bind fun vs=>
  let s2:=promAll (ptrProm outh (outL vs.length out) vs++outProm outh 0 (outL vs.length out)++pinProm pin outh 0 (outh.take pin)) ⟨argEnv vs,s.heap,s.next⟩
  let vs2:=(List.range vs.length).map s2.env
  (finA s2.heap out (oneOf vs2)).bind fun q=>
  (cleanC pin [0] ⟨assoc [(0,q.1)],deadOut (outh.take pin) 0 q.2,s2.next⟩).bind fun c=>match c.vs with
   | [(_,v)]=>(out.of v).bind fun x=>(BShL.of outh c.bl).map fun y=>cmk out.T (BShL.T outh) x y
   |_=>none
def tFn (cx:TCx) (fn:Func) (an:An) (t:Told) (d:Dof (comb (ShL.T t.ina) (BShL.T t.inh))):Tr (Dof (comb t.out.T (BShL.T t.outh))):=
 match fn.body with
 |none=>.fail (.other 18)
 |some c=>
  if fn.nfree+fn.params.size=t.ina.length then
   (tBody cx t.inh.length c an ⟨argEnv (ShL.to t.ina (cfst (ShL.T t.ina) (BShL.T t.inh) d)),heapOf (BShL.to t.inh (csnd (ShL.T t.ina) (BShL.T t.inh) d)),t.inh.length⟩).andThen fun q=>match q.1 with
    |.normal=>match endT cx.P fn t.out t.outh t.inh.length q.2 with
     |some r=>.ret r
     |none=>.fail (.call 19 (match exResult cx.P q.2.heap q.2.env fn.results.toList with|some vs=>shapeL vs|none=>[]) ((List.range q.2.next).map fun j=>shapeB (q.2.heap j)))
    |.ret=>match endT cx.P fn t.out t.outh t.inh.length q.2 with
     |some r=>.ret r
     |none=>.fail (.call 19 (match exResult cx.P q.2.heap q.2.env fn.results.toList with|some vs=>shapeL vs|none=>[]) ((List.range q.2.next).map fun j=>shapeB (q.2.heap j)))
    |_=>.fail (.other 20)
  else .fail (.other 21)
end
end
section
noncomputable section
abbrev w64 (n:Int):Int:=IntKind.i64.wrap n
abbrev p2 (y:Int) (b:Nat):Int:=((2 ^ min y.toNat b:Nat):Int)
def lookT:List (Nat×List Told)->Nat->List Told
 | [],_=>[]
 |p::l,f=>match Nat.beq p.1 f with
  |true=>p.2
  |false=>lookT l f
mutual
def Sh.isRow:Sh->Bool
 |.full _=>true
 |.sub _ _=>true
 |.agg xs=>ShL.isRow xs
 |_=>false
def ShL.isRow:List Sh->Bool
 | []=>false
 |a::l=>a.isRow||ShL.isRow l
end
def ownT (T:Nat->List Told) (f:Nat):List Bool:=match T f with|t::_=>t.ina.map Sh.isRow | []=>[]
def natIn (l:List Nat) (x:Nat):Bool:=match l with
 | []=>false
 |y::l=>match Nat.beq y x with
  |true=>true
  |false=>natIn l x
def roT:Nat:=2097152
def mkCxD (P:Program) (dl:List Nat) (l:List (Nat×List Told)):TCx:=⟨P,lookT l,ownT (lookT l),natIn dl,fun f=>natIn dl (f+roT)⟩
end
end
section
theorem ofQ_ok {lit:Bool} {wy:Why} {q:QRes} {r:AV×Heap×Bool} (h:(ofQ lit wy q).run=some r):∃ c,q=some (c,r)/\(lit=false->okP c):=by
 unfold ofQ at h
 split at h
 ·cases h
 ·simp only [Tr.run,zS] at h;subst h;exact ⟨_,rfl,fun _=>trivial⟩
 ·split at h
  ·simp only [Tr.run,zS] at h;subst h;exact ⟨_,rfl,fun e=>by cases e⟩
  ·simp only [Tr.run] at h
   split at h
   ·rename_i hc;cases h;exact ⟨_,rfl,fun _=>hc⟩
   ·cases h
theorem qBin_lit {P:Program} {T:TypeId} {op:BinOp} {a:AV} {env:Nat->AV} {y:Operand} {h:Heap} {c:Prop} {r} (e:qBin P T op a (evalO env y) h=some (some c,r)) (hl:litOK op y=true):c:=by
 unfold litOK at hl
 split at hl
 ·rename_i k' n
  have hy:∀ (k:IntKind) (z:(Ty.int k).D),evalO env (.const (.int k' n))=.dat (.int k) z->toI k z=n:=by
   intro k z hz
   have hz:ofVal (.int k' n)=.dat (.int k) z:=hz
   cases k' with
   |u8=>
    simp only [ofVal] at hz
    split at hz
    ·rename_i hr;cases hz;exact toI_ofI _ _ fun _=>hr
    ·cases hz
   |_=>
    simp only [ofVal] at hz
    cases hz
    exact toI_ofI _ _ (fun e=>by cases e)
  unfold qBin at e
  split at e
  ·rename_i k x k2 y2 heq
   have hn:=hy _ _ heq
   rw [hn] at e
   unfold qInt at e
   split at e
   ·cases e;simpa using hl
   ·cases e;simpa using hl
   ·split at e
    ·cases e;simpa using hl
    ·cases e
   ·split at e
    ·cases e;simpa using hl
    ·cases e
   ·unfold qSure at e
    obtain ⟨q,_,h2⟩:=zM.1 e
    cases h2
  ·split at e
   ·simp at hl
   ·unfold qSure at e
    obtain ⟨q,_,h2⟩:=zM.1 e
    cases h2
  ·unfold qSure at e
   obtain ⟨q,_,h2⟩:=zM.1 e
   cases h2
 ·cases hl
theorem pickT_ok {x:Bool} {a b:AV} {h:Heap} {r} (e:(pickT x a b h).run=some r):r=(cond x a b,h,false):=by
 have gen:(Tr.br x (.ret (a,h,false)) (.ret (b,h,false))).run=some r->r=(cond x a b,h,false):=fun e=>by
  cases x with
  |true=>simp only [Tr.run,zC,zS] at e ⊢;exact e.symm
  |false=>simp only [Tr.run,zc,zS] at e ⊢;exact e.symm
 unfold pickT at e
 cases a with
 |dat t u=>
  simp only at e
  cases hu:datOf t b with
  |none=>rw [hu] at e;exact gen e
  |some u'=>
   rw [hu] at e
   have:=datOf_some hu
   subst this
   simp only [Tr.run,zS] at e
   subst e
   cases x<;>rfl
 |_=>exact gen e
theorem tCall0_eq {cx:TCx} {f:FuncId} {args:List AV} {h:Heap} {id0:Nat}:exCall0 cx.cx f args h id0=(tCall0 cx f args h id0).run:=by
 unfold tCall0 exCall0
 have ho:cx.cx.own=cx.own:=rfl
 rw [ho]
 cases h1:exportAll h (cx.own f) args with
 |none=>rfl
 |some as=>
  simp only [zb]
  split
  ·rw [Tr.run_andThen,named_run]
   have h2:cx.cx.run f (renL (fun id=>(idxOf id (reach h 8 (addNew [] (idsL as))) 0).getD 0) as) (reach h 8 (addNew [] (idsL as))).length (subH h (reach h 8 (addNew [] (idsL as))) fun id=>(idxOf id (reach h 8 (addNew [] (idsL as))) 0).getD 0) =
    (tRun cx.T cx.ro f (renL (fun id=>(idxOf id (reach h 8 (addNew [] (idsL as))) 0).getD 0) as) (reach h 8 (addNew [] (idsL as))).length (subH h (reach h 8 (addNew [] (idsL as))) fun id=>(idxOf id (reach h 8 (addNew [] (idsL as))) 0).getD 0)).run:=rfl
   rw [h2]
   congr 1
   funext q
   obtain ⟨r,h1,n1⟩:=q
   simp only
   split<;>rfl
  ·rfl
theorem tCall_ok {cx:TCx} {f:FuncId} {args:List AV} {h:Heap} {id0:Nat} {r} (e:(tCall cx f args h id0).run=some r):exCall cx.cx f args h id0=some r:=by
 unfold tCall at e
 unfold exCall
 rw [tCall0_eq]
 simp only at e
 split at e
 ·rename_i hf
  have hn:=Tr.run_fail hf
  rw [hn]
  simp only
  split at e
  ·rename_i hl
   simp only [hl]
   obtain ⟨q,h2,h3⟩:=Tr.run_some e
   rw [tCall0_eq,h2]
   simpa [Tr.run] using h3
  ·rw [hn] at e;cases e
 ·rw [e]
def FactsOK (fs:Facts) (env:Nat->AV):Prop:=∀ g b,fact fs g=some b->env g=.dat .bool b
theorem FactsOK.nil {env:Nat->AV}:FactsOK [] env:=fun g b h=>by simp [fact] at h
theorem fact_cons {fs:Facts} {k g:Nat} {b d:Bool} (h:fact ((k,b)::fs) g=some d):(g=k/\d=b)\/(g≠k/\fact fs g=some d):=by
 unfold fact at h ⊢
 simp only [List.find?_cons] at h
 split at h
 ·rename_i e
  simp only [beq_iff_eq] at e
  simp at h
  exact .inl ⟨e.symm,h.symm⟩
 ·rename_i e
  right
  refine ⟨fun e'=>?_,h⟩
  subst e'
  simp at e
theorem fact_forget {fs:Facts} {k g:Nat} {d:Bool} (h:fact (forget fs (some k)) g=some d):g≠k/\fact fs g=some d:=by
 unfold fact forget at h
 simp only at h
 obtain ⟨p,h1,h2⟩:=zM.1 h
 have hp:=List.find?_some h1
 have hm:=List.mem_of_find?_eq_some h1
 simp only [beq_iff_eq] at hp
 have hne:=(List.mem_filter.1 hm).2
 have hgk:g≠k:=fun e=>by rw [hp,e] at hne;simp at hne
 refine ⟨hgk,?_⟩
 unfold fact
 clear hm hne h
 induction fs with
 |nil=>simp at h1
 |cons q fs ih=>
  simp only [List.filter_cons] at h1
  simp only [List.find?_cons]
  split at h1
  ·rename_i hq
   simp only [List.find?_cons] at h1
   split at h1
   ·rename_i hq2
    cases h1
    (try simp only [hq2]);simpa using h2
   ·rename_i hq2
    (try simp only [hq2]);exact ih h1
  ·rename_i hq
   simp at hq
   have:(q.1 == g)=false:=by rw [hq];simpa using fun e=>hgk e.symm
   simp only [this];exact ih h1
theorem FactsOK.put {fs:Facts} {env:Nat->AV} {d:Option Nat} {v:AV} (h:FactsOK fs env):FactsOK (forget fs d) (put env d v):=by
 intro g b hg
 cases d with
 |none=>exact h g b (by simpa [forget] using hg)
 |some k=>
  obtain ⟨h1,h2⟩:=fact_forget hg
  simp only [LM.put,if_neg h1]
  exact h g b h2
theorem FactsOK.cons {fs:Facts} {env:Nat->AV} {k:Nat} {b:Bool} (h:FactsOK fs env) (hk:env k=.dat .bool b):FactsOK ((k,b)::fs) env:=by
 intro g d hg
 rcases fact_cons hg with ⟨rfl,rfl⟩|⟨_,h2⟩
 ·exact hk
 ·exact h g d h2
theorem factV_ok {fs:Facts} {env:Nat->AV} (h:FactsOK fs env) {x:Operand} {b:Bool} (e:factV fs x=some b):evalO env x=.dat .bool b:=by
 unfold factV at e
 split at e
 ·exact h _ _ e
 ·split at e
  ·cases e;rfl
  ·cases e
 ·cases e
theorem factO_ok {fs:Facts} {env:Nat->AV} (h:FactsOK fs env) {x:Operand} {b:Bool} (e:factO fs x=some b):evalO env x=.dat .bool b:=by
 unfold factO at e
 split at e
 ·exact h _ _ e
 ·cases e
theorem tOp_ok {cx:TCx} {fs:Facts} {env:Nat->AV} (hf:FactsOK fs env) {o:Op} {T:TypeId} {h:Heap} {id0:Nat} {r} (e:(tOp cx fs (evalO env) o T h id0).run=some r):exOp cx.cx (evalO env) o T h id0=some r:=by
 have dflt:∀ {o:Op} {wy:Why},(ofQ false wy (qOp cx.cx (evalO env) o T h id0)).run=some r->exOp cx.cx (evalO env) o T h id0=some r:=fun {o wy} e=>by
  obtain ⟨c,h1,h2⟩:=ofQ_ok e
  exact qOp_ok h1 (h2 rfl)
 unfold tOp at e
 split at e
 ·split at e
  ·rename_i hc
   simp only [exOp,factO_ok hf hc]
   simpa [Tr.run] using e
  ·rename_i hc
   simp only [exOp,factO_ok hf hc]
   simpa [Tr.run] using e
  ·split at e
   ·rename_i x hx
    have:=pickT_ok e
    subst this
    simp only [exOp,hx]
    cases x<;>rfl
   ·cases e
 ·split at e
  ·rename_i f hcal
   split at e
   ·rename_i g caps hg
    simp only [exOp,hcal,hg]
    exact tCall_ok e
   ·cases e
  ·exact dflt e
 ·rename_i op t x y ty
  obtain ⟨c,h1,h2⟩:=ofQ_ok e
  simp only [exOp]
  refine qBin_ok h1 ?_
  cases c with
  |none=>trivial
  |some p=>
   cases hl:litOK op y with
   |true=>exact qBin_lit h1 hl
   |false=>exact h2 hl
 ·exact dflt e
theorem learn_ok {cx:Cx} {fs:Facts} {env:Nat->AV} (hf:FactsOK fs env) {o:Op} {T:TypeId} {h:Heap} {id0:Nat} {v:AV} {h':Heap} {hd:Bool} (e:exOp cx (evalO env) o T h id0=some (v,h',hd)) (d:Option Nat):FactsOK (learn fs o d) (put env d v):=by
 unfold learn
 split
 ·intro g b hg;exact hf g b hg
 ·rename_i k
  split
  ·rename_i b hb
   refine FactsOK.cons hf.put ?_
   simp only [LM.put,if_true]
   unfold newFact at hb
   split at hb
   ·simp only [exOp,zS,zP] at e
    rw [←e.1];exact factV_ok hf hb
   ·simp only [exOp,zS,zP] at e
    rw [←e.1];exact factV_ok hf hb
   ·split at hb
    ·rename_i hc
     simp only [exOp,factO_ok hf hc,zS,zP] at e
     rw [←e.1];exact factV_ok hf hb
    ·rename_i hc
     simp only [exOp,factO_ok hf hc,zS,zP] at e
     rw [←e.1];exact factV_ok hf hb
    ·cases hb
   ·split at hb
    ·obtain ⟨b',h1,h2⟩:=zM.1 hb
     simp only [exOp,factV_ok hf h1,exUn,soft,Option.map_some,zS,zP] at e
     rw [←e.1,←h2]
    ·cases hb
   ·cases hb
  ·exact hf.put
theorem put_same {env:Nat->AV} {g:Nat} {v:AV} (h:env g=v):put env (some g) v=env:=by
 funext k
 simp only [put]
 split
 ·rename_i e;subst e;exact h.symm
 ·rfl
theorem tOps_ok {cx:TCx} {ops:Array Oper} {base:Nat}:∀ (l:List Oper) (k:Nat) (fs:Facts) (env:Nat->AV) (h:Heap) {r},FactsOK fs env->(tOps cx ops base l k fs env h).run=some r->exOps cx.cx ops base l k env h=some r
 | [],k,fs,env,h,r,hf,e=>by simpa [tOps,Tr.run,exOps] using e
 |o::l,k,fs,env,h,r,hf,e=>by
  have doIt:∀ (fs:Facts) (env:Nat->AV),FactsOK fs env->((tOp cx fs (evalO env) o.op o.type h (base+k*W)).andThen fun q=>tOps cx ops base l (k+1) (learn fs o.op o.dst) (put env o.dst q.1) q.2.1).run=some r ->
    ((exOp cx.cx (evalO env) o.op o.type h (base+k*W)).bind fun q=>exOps cx.cx ops base l (k+1) (put env o.dst q.1) q.2.1)=some r:=by
   intro fs env hf e
   obtain ⟨q,h1,h2⟩:=Tr.run_some e
   have h3:=tOp_ok hf h1
   rw [h3]
   exact tOps_ok l (k+1) _ _ _ (learn_ok hf h3 _) h2
  have skip:∀ (fs:Facts) (env:Nat->AV),FactsOK fs env->(tOps cx ops base l (k+1) (forget fs o.dst) (put env o.dst (.tup [])) h).run=some r->exOps cx.cx ops base l (k+1) (put env o.dst (.tup [])) h=some r:=
   fun fs env hf e=>tOps_ok l (k+1) _ _ _ hf.put e
  simp only [tOps] at e
  simp only [exOps]
  cases hg:o.guard with
  |none=>
   rw [hg] at e
   exact doIt fs env hf e
  |some jw=>
   obtain ⟨j,want⟩:=jw
   rw [hg] at e
   simp only at e ⊢
   cases hd:dstOf ops j with
   |none=>rw [hd] at e;cases e
   |some g=>
    rw [hd] at e
    simp only at e ⊢
    split at e
    ·rename_i b hb
     simp only [hb]
     split at e
     ·rename_i hfa
      have hb2:=hf g _ hfa
      rw [hb2] at hb
      cases hb
      split at e
      ·simp only;rw [put_same hb2];exact doIt fs env hf e
      ·simp only;rw [put_same hb2];exact skip fs env hf e
     ·rename_i hfa
      have hb2:=hf g _ hfa
      rw [hb2] at hb
      cases hb
      split at e
      ·simp only;rw [put_same hb2];exact skip fs env hf e
      ·simp only;rw [put_same hb2];exact doIt fs env hf e
     ·split at e
      ·cases b with
       |true=>
        simp only [Tr.run,zC] at e
        rw [put_same hb] at e
        simp only;rw [put_same hb]
        exact doIt _ _ (hf.cons hb) e
       |false=>
        simp only [Tr.run,zc] at e
        rw [put_same hb] at e
        simp only;rw [put_same hb]
        exact skip _ _ (hf.cons hb) e
      ·cases b with
       |true=>
        simp only [Tr.run,zC] at e
        rw [put_same hb] at e
        simp only;rw [put_same hb]
        exact skip _ _ (hf.cons hb) e
       |false=>
        simp only [Tr.run,zc] at e
        rw [put_same hb] at e
        simp only;rw [put_same hb]
        exact doIt _ _ (hf.cons hb) e
    ·rename_i hb
     simp only [hb]
     exact skip fs env hf e
    ·cases e
theorem exOpsF_acc {cx:TCx} {pv:Nat->Bool} {ops:Array Oper} {base:Nat}:∀ (l:List Oper) (k:Nat) (fs:Facts) (env:Nat->AV) (h:Heap) (acc:List Fl) {env':Nat->AV} {h':Heap} {fl:List Fl},FactsOK fs env->(tOpsF cx pv ops base l k fs env h acc).run=some (env',h',fl) ->
  ∃ gl,fl=acc.reverse++gl/\exOpsF cx.cx pv ops base l k env h=some (env',h',gl)
 | [],k,fs,env,h,acc,env',h',fl,hf,e=>by
  simp only [tOpsF,Tr.run,zS,zP] at e
  obtain ⟨rfl,rfl,rfl⟩:=e
  exact ⟨[],by simp,rfl⟩
 |o::l,k,fs,env,h,acc,env',h',fl,hf,e=>by
  have doIt:∀ (fs:Facts),FactsOK fs env->((tOp cx fs (evalO env) o.op o.type h (base+k*W)).andThen fun q=>match tchBad cx.own ops base env h o q.2.2 with
    |true=>.fail (.other 16)
    |false=>tOpsF cx pv ops base l (k+1) (learn fs o.op o.dst) (put env o.dst q.1) q.2.1 ((q.2.2,markOf cx.deep pv base env o.op q.2.2,markOf cx.deep (fun _=>false) base env o.op q.2.2)::acc)).run=some (env',h',fl) ->
    ∃ v h1 hd gl,tchBad cx.cx.own ops base env h o hd=false/\exOp cx.cx (evalO env) o.op o.type h (base+k*W)=some (v,h1,hd)/\fl=acc.reverse++(hd,markOf cx.deep pv base env o.op hd,markOf cx.deep (fun _=>false) base env o.op hd)::gl/\exOpsF cx.cx pv ops base l (k+1) (put env o.dst v) h1=some (env',h',gl):=by
   intro fs hf e
   obtain ⟨q,h1,h2⟩:=Tr.run_some e
   have h3:=tOp_ok hf h1
   split at h2
   ·cases h2
   ·rename_i htb
    obtain ⟨gl,h4,h5⟩:=exOpsF_acc l (k+1) _ _ _ _ (learn_ok hf h3 _) h2
    exact ⟨_,_,_,gl,htb,h3,by rw [h4];simp,h5⟩
  have skip:∀ (fs:Facts),FactsOK fs env->(tOpsF cx pv ops base l (k+1) (forget fs o.dst) (put env o.dst (.tup [])) h ((false,true,true)::acc)).run=some (env',h',fl) ->
    ∃ gl,fl=acc.reverse++(false,true,true)::gl/\exOpsF cx.cx pv ops base l (k+1) (put env o.dst (.tup [])) h=some (env',h',gl):=by
   intro fs hf e
   obtain ⟨gl,h4,h5⟩:=exOpsF_acc l (k+1) _ _ _ _ hf.put e
   exact ⟨gl,by rw [h4];simp,h5⟩
  simp only [tOpsF] at e
  simp only [exOpsF,exOne,skB]
  cases hg:o.guard with
  |none=>
   rw [hg] at e
   obtain ⟨v,h1,hd,gl,i0,i1,i2,i3⟩:=doIt fs hf e
   exact ⟨(hd,markOf cx.deep pv base env o.op hd,markOf cx.deep (fun _=>false) base env o.op hd)::gl,i2,by simp only [i1,i0,i3];rfl⟩
  |some jw=>
   obtain ⟨j,want⟩:=jw
   rw [hg] at e
   simp only at e ⊢
   cases hd:dstOf ops j with
   |none=>rw [hd] at e;cases e
   |some g=>
    rw [hd] at e
    simp only at e ⊢
    split at e
    ·rename_i b hb
     simp only [hb]
     split at e
     ·rename_i hfa
      have hb2:=hf g _ hfa
      rw [hb2] at hb
      cases hb
      split at e
      ·obtain ⟨v,h1,hd,gl,i0,i1,i2,i3⟩:=doIt fs hf e
       exact ⟨(hd,markOf cx.deep pv base env o.op hd,markOf cx.deep (fun _=>false) base env o.op hd)::gl,i2,by simp only [i1,i0,i3];rfl⟩
      ·obtain ⟨gl,i2,i3⟩:=skip fs hf e
       exact ⟨(false,true,true)::gl,i2,by simp only [tchBad,i3];rfl⟩
     ·rename_i hfa
      have hb2:=hf g _ hfa
      rw [hb2] at hb
      cases hb
      split at e
      ·obtain ⟨gl,i2,i3⟩:=skip fs hf e
       exact ⟨(false,true,true)::gl,i2,by simp only [tchBad,i3];rfl⟩
      ·obtain ⟨v,h1,hd,gl,i0,i1,i2,i3⟩:=doIt fs hf e
       exact ⟨(hd,markOf cx.deep pv base env o.op hd,markOf cx.deep (fun _=>false) base env o.op hd)::gl,i2,by simp only [i1,i0,i3];rfl⟩
     ·split at e
      ·cases b with
       |true=>
        simp only [Tr.run,zC] at e
        rw [put_same hb] at e
        obtain ⟨v,h1,hd,gl,i0,i1,i2,i3⟩:=doIt _ (hf.cons hb) e
        exact ⟨(hd,markOf cx.deep pv base env o.op hd,markOf cx.deep (fun _=>false) base env o.op hd)::gl,i2,by simp only [i1,i0,i3];rfl⟩
       |false=>
        simp only [Tr.run,zc] at e
        rw [put_same hb] at e
        obtain ⟨gl,i2,i3⟩:=skip _ (hf.cons hb) e
        exact ⟨(false,true,true)::gl,i2,by simp only [tchBad,i3];rfl⟩
      ·cases b with
       |true=>
        simp only [Tr.run,zC] at e
        rw [put_same hb] at e
        obtain ⟨gl,i2,i3⟩:=skip _ (hf.cons hb) e
        exact ⟨(false,true,true)::gl,i2,by simp only [tchBad,i3];rfl⟩
       |false=>
        simp only [Tr.run,zc] at e
        rw [put_same hb] at e
        obtain ⟨v,h1,hd,gl,i0,i1,i2,i3⟩:=doIt _ (hf.cons hb) e
        exact ⟨(hd,markOf cx.deep pv base env o.op hd,markOf cx.deep (fun _=>false) base env o.op hd)::gl,i2,by simp only [i1,i0,i3];rfl⟩
    ·rename_i hb
     simp only [hb]
     obtain ⟨gl,i2,i3⟩:=skip fs hf e
     exact ⟨(false,true,true)::gl,i2,by simp only [tchBad,i3];rfl⟩
    ·cases e
theorem tOpsF_ok {cx:TCx} {pv:Nat->Bool} {ops:Array Oper} {base:Nat} {env:Nat->AV} {h:Heap} {q} (e:(tOpsF cx pv ops base ops.toList 0 [] env h []).run=some q):exOpsF cx.cx pv ops base ops.toList 0 env h=some q:=by
 obtain ⟨a,b,c⟩:=q
 obtain ⟨gl,h1,h2⟩:=exOpsF_acc _ _ _ _ _ _ FactsOK.nil e
 simp at h1
 subst h1
 exact h2
end
end Go.LM
