/- LmA: LmEx LmRel. -/
import Derived.WalkKit
import Derived.Orders
set_option linter.unusedVariables false
/- Short names for lemmas that are used often. -/
namespace Go
theorem zF {p : Prop} [Decidable p] (h : ¬p) : decide p = false := decide_eq_false h
theorem zT {p : Prop} [Decidable p] (h : p) : decide p = true := decide_eq_true h
theorem zN (n : Nat) : Int.ofNat n = (n : Int) := rfl
theorem zB {α β : Type _} {b : β} {x : Option α} {f : α → Option β} : x.bind f = some b ↔ ∃ a, x = some a ∧ f a = some b := Option.bind_eq_some_iff
theorem zc {α : Sort _} {a b : α} : (bif false then a else b) = b := rfl
theorem zC {α : Sort _} {a b : α} : (bif true then a else b) = a := rfl
theorem zb {α β : Type _} (a : α) (f : α → Option β) : (some a).bind f = f a := rfl
theorem zM {α β : Type _} {b : β} {x : Option α} {f : α → β} : x.map f = some b ↔ ∃ a, x = some a ∧ f a = b := Option.map_eq_some_iff
theorem zS {α : Type _} {a b : α} : (some a = some b) = (a = b) := Option.some.injEq a b
theorem zP {α β : Type _} {a c : α} {b d : β} : ((a, b) = (c, d)) = (a = c ∧ b = d) := Prod.mk.injEq a b c d
theorem zL {α : Type _} {as bs : List α} : (as ++ bs).length = as.length + bs.length := List.length_append
end Go
section
namespace Go.LM
noncomputable section
inductive Ty where
 |int (k:IntKind)|bool|str|sl (e:Ty)|un|pr (a b:Ty)|ar (n:Nat) (e:Ty)
 deriving DecidableEq,Inhabited
@[reducible] def Ty.D:Ty->Type
 |.int .u8=>UInt8
 |.int .i8=>Int
 |.int .i16=>Int
 |.int .i32=>Int
 |.int .i64=>Int
 |.int .u16=>Int
 |.int .u32=>Int
 |.int .u64=>Int
 |.bool=>Bool
 |.str=>List UInt8
 |.sl e=>List e.D
 |.un=>Unit
 |.pr a b=>a.D×b.D
 |.ar _ e=>List e.D
def Ty.sz:Ty->Nat
 |.un=>0
 |.pr a b=>a.sz+b.sz
 |.ar n e=>n*e.sz
 |_=>1
def Ty.dflt:(t:Ty)->t.D
 |.int .u8=>(0:UInt8)
 |.int .i8=>(0:Int)
 |.int .i16=>(0:Int)
 |.int .i32=>(0:Int)
 |.int .i64=>(0:Int)
 |.int .u16=>(0:Int)
 |.int .u32=>(0:Int)
 |.int .u64=>(0:Int)
 |.bool=>false
 |.str=>([]:List UInt8)
 |.sl e=>([]:List e.D)
 |.un=>()
 |.pr a b=>(a.dflt,b.dflt)
 |.ar n e=>List.replicate n e.dflt
def toI:(k:IntKind)->(Ty.int k).D->Int
 |.u8,x=>(UInt8.toNat x:Int)
 |.i8,x=>x
 |.i16,x=>x
 |.i32,x=>x
 |.i64,x=>x
 |.u16,x=>x
 |.u32,x=>x
 |.u64,x=>x
def ofI:(k:IntKind)->Int->(Ty.int k).D
 |.u8,n=>UInt8.ofNat (n % 256).toNat
 |.i8,n=>n
 |.i16,n=>n
 |.i32,n=>n
 |.i64,n=>n
 |.u16,n=>n
 |.u32,n=>n
 |.u64,n=>n
def wrI (k:IntKind) (n:Int):(Ty.int k).D:=match k with
 |.u8=>UInt8.ofNat (n % 256).toNat
 |.i8=>IntKind.i8.wrap n
 |.i16=>IntKind.i16.wrap n
 |.i32=>IntKind.i32.wrap n
 |.i64=>IntKind.i64.wrap n
 |.u16=>IntKind.u16.wrap n
 |.u32=>IntKind.u32.wrap n
 |.u64=>IntKind.u64.wrap n
structure Pos where
 off:Nat
 path:List (Int×Nat)
inductive AV where
 |dat (t:Ty) (x:t.D)
 |nilS|nilP|nilF
 |full (id:Nat)
 |sub (id off:Nat) (lo hi:Int)
 |ptr (id:Nat) (p:Pos)
 |fptr (t:Ty) (x:t.D)
 |nz (b:Bool) (t:Ty) (xs:List t.D)
 |mp (b:Bool) (t:Ty) (x:t.D)
 |fn (f:FuncId) (caps:List AV)
 |agg (xs:List AV)
 |tup (xs:List AV)
 |any
 |mref (id:Nat)
inductive Blk where
 |row (t:Ty) (xs:List t.D) (frozen:Bool)
 |vars (cs:List AV)
 |deep (e:Ty) (xs:List e.D) (hole:Option (Int×Nat×Nat))
 |dead
 |mapB (k v:Ty) (es:List (k.D×v.D))
abbrev Heap:=Nat->Option Blk
def Heap.set (h:Heap) (id:Nat) (b:Blk):Heap:=fun j=>if j=id then some b else h j
def cast' {a b:Ty} (x:a.D):Option b.D:=if h:a=b then some (h▸x) else none
def proj:(t:Ty)->t.D->Nat->(u:Ty)->Option u.D
 |.pr a b,x,off,u=>
  if off=0/\Ty.pr a b=u then cast' (a:=.pr a b) x
  else if off<a.sz then proj a x.1 off u else proj b x.2 (off - a.sz) u
 |t,x,off,u=>if off=0 then cast' x else none
def inj:(t:Ty)->t.D->Nat->(u:Ty)->u.D->Option t.D
 |.pr a b,x,off,u,v=>
  if off=0/\Ty.pr a b=u then cast' (b:=.pr a b) v
  else if off<a.sz then (inj a x.1 off u v).map fun y=>(y,x.2) else (inj b x.2 (off - a.sz) u v).map fun y=>(x.1,y)
 |_,_,off,_,v=>if off=0 then cast' v else none
def projA:(t:Ty)->t.D->Nat->Option ((e:Ty)×(n:Nat)×List e.D)
 |.pr a b,x,off=>if off<a.sz then projA a x.1 off else projA b x.2 (off - a.sz)
 |.ar n e,x,off=>if off=0 then some ⟨e,n,x⟩ else none
 |_,_,_=>none
def getP:List (Int×Nat)->(t:Ty)->t.D->Nat->(u:Ty)->Option u.D
 | [],t,x,off,u=>proj t x off u
 |(i,o)::rest,t,x,off,u=>
  match projA t x off with
  |some ⟨e,_,xs⟩=>getP rest e (xs.getD i.toNat e.dflt) o u
  |none=>none
def setP:List (Int×Nat)->(t:Ty)->t.D->Nat->(u:Ty)->u.D->Option t.D
 | [],t,x,off,u,v=>inj t x off u v
 |(i,o)::rest,t,x,off,u,v=>
  match projA t x off with
  |some ⟨e,n,xs⟩=>(setP rest e (xs.getD i.toNat e.dflt) o u v).bind fun y=>inj t x off (.ar n e) (xs.set i.toNat y)
  |none=>none
def fieldsTy (f:TypeId->Option Ty):List Field->Option Ty
 | []=>some .un
 |x::l=>(f x.type).bind fun a=>(fieldsTy f l).bind fun b=>some (.pr a b)
def tyOf (P:Program):Nat->TypeId->Option Ty
 |0,_=>none
 |d+1,T=>
  match P.underlying T with
  |some (.int k)=>some (.int k)
  |some .bool=>some .bool
  |some .string=>some .str
  |some (.slice e)=>(tyOf P d e).map .sl
  |some (.array n e)=>(tyOf P d e).map (.ar n)
  |some (.struct fs)=>fieldsTy (tyOf P d) fs.toList
  |_=>none
def TD:Nat:=12
def tyC (P:Program) (T:TypeId):Option Ty:=
 match tyOf P TD T,P.info? T with
 |some t,some i=>if i.size=t.sz then some t else none
 |_,_=>none
def decN {α:Type} (f:List Value->Option (α×List Value)):Nat->List Value->Option (List α×List Value)
 |0,l=>some ([],l)
 |n+1,l=>match f l with
  |some (x,r)=>match decN f n r with
   |some (xs,r')=>some (x::xs,r')
   |none=>none
  |none=>none
def decU:(u:Ty)->List Value->Option (u.D×List Value)
 |.int k,l=>match l with
  |.int j n::r=>if k=j/\(k=.u8->0<=n/\n<256) then some (ofI k n,r) else none
  |_=>none
 |.bool,l=>match l with
  |.bool b::r=>some (b,r)
  |_=>none
 |.str,l=>match l with
  |.string s::r=>some (s.data.toList,r)
  |_=>none
 |.sl e,l=>match l with
  |.slice none 0 0::r=>some (([]:List e.D),r)
  |_=>none
 |.un,l=>some ((),l)
 |.pr a b,l=>match decU a l with
  |some (x,r)=>match decU b r with
   |some (y,r')=>some ((x,y),r')
   |none=>none
  |none=>none
 |.ar n e,l=>decN (decU e) n l
def tyArr:Ty->Nat->Option (Nat×Ty)
 |.pr a b,off=>if off<a.sz then tyArr a off else tyArr b (off - a.sz)
 |.ar n e,off=>if off=0 then some (n,e) else none
 |_,_=>none
def arrIn:Ty->Nat->List (Int×Nat)->Option (Nat×Ty)
 |t,o,[]=>tyArr t o
 |t,o,(_,o')::rest=>match tyArr t o with
  |some (_,e)=>arrIn e o' rest
  |none=>none
def elemIs (P:Program) (T:TypeId) (t:Ty):Bool:=match tyC P T with|some q=>decide (q=t)|none=>false
def zeroFields (f:TypeId->List Value->Option (List AV×List Value)):List Field->List Value->Option (List AV×List Value)
 | [],l=>some ([],l)
 |x::fs,l=>match f x.type l with
  |some (a,r)=>match zeroFields f fs r with
   |some (b,r')=>some (a++b,r')
   |none=>none
  |none=>none
def litL (P:Program):Nat->TypeId->List Value->Option (List AV×List Value)
 |0,_,_=>none
 |d+1,T,l=>
  match P.underlying T,l with
  |some (.slice _),.slice none 0 0::r=>some ([.nilS],r)
  |some (.pointer _),.pointer none::r=>some ([.nilP],r)
  |some (.func ..),.nilFunc::r=>some ([.nilF],r)
  |some (.array n e),l=>match tyC P e with
   |some t=>match decU (.ar n t) l with
    |some (x,r)=>some ([.dat (.ar n t) x],r)
    |none=>none
   |none=>none
  |some (.struct fs),l=>zeroFields (litL P d) fs.toList l
  |some (.int k),l=>(decU (.int k) l).map fun p=>([.dat (.int k) p.1],p.2)
  |some .bool,l=>(decU .bool l).map fun p=>([.dat .bool p.1],p.2)
  |some .string,l=>(decU .str l).map fun p=>([.dat .str p.1],p.2)
  |_,_=>none
def zeroOf (P:Program) (T:TypeId):Option Value:=match P.info? T with|some i=>i.zero|none=>none
def zeroL (P:Program) (T:TypeId):Option (List AV):=
 match zeroOf P T with
 |some z=>match litL P TD T z.cells.toList with
  |some (l,[])=>some l
  |_=>none
 |none=>none
def zeroD (P:Program) (T:TypeId) (u:Ty):Option u.D:=
 match zeroOf P T with
 |some z=>match decU u z.cells.toList with
  |some (x,[])=>some x
  |_=>none
 |none=>none
def isAggT (P:Program) (T:TypeId):Bool:=
 match P.underlying T with
 |some (.struct _)=>true
 |_=>false
def isAggM (P:Program) (T:TypeId):Bool:=
 match P.underlying T with
 |some (.struct _)=>true
 |some (.array ..)=>true
 |_=>false
def isMany:AV->Bool
 |.agg _=>true
 |.dat (.pr ..) _=>true
 |.dat .un _=>true
 |.dat (.ar ..) _=>true
 |_=>false
def AV.csz:AV->Nat
 |.dat t _=>t.sz
 |.agg _=>0
 |.tup _=>0
 |.any=>0
 |_=>1
def leavesD:(t:Ty)->t.D->List AV
 |.un,_=>[]
 |.pr a b,x=>leavesD a x.1++leavesD b x.2
 |t,x=>[.dat t x]
def AV.leaves:AV->List AV
 |.agg xs=>xs
 |.dat (.pr a b) x=>leavesD (.pr a b) x
 |.dat .un _=>[]
 |a=>[a]
def cellsL:List AV->Nat
 | []=>0
 |a::l=>a.csz+cellsL l
def leafSh:AV->Option (Nat×Ty)
 |.dat (.ar n e) _=>some (n,e)
 |_=>none
def lsz:Option (Nat×Ty)->Nat
 |none=>1
 |some (n,e)=>n*e.sz
def flat (cs:List AV):Bool:=cs.all fun a=>lsz (leafSh a) == a.csz
def hasT (P:Program) (T:TypeId):Bool:=match P.underlying T with|some _=>true|none=>false
def takeL:List AV->Nat->Nat->Option (List AV)
 | [],off,n=>if off=0/\n=0 then some [] else none
 |a::l,off,n=>
  if off=0 then if n=0 then some [] else if a.csz<=n then (takeL l 0 (n - a.csz)).map (a::·) else none
  else if a.csz<=off then takeL l (off - a.csz) n else none
def putL:List AV->Nat->Nat->List AV->Option (List AV)
 | [],off,n,vs=>if off=0/\n=0 then some vs else none
 |a::l,off,n,vs=>
  if off=0 then if n=0 then some (vs++a::l) else if a.csz<=n then putL l 0 (n - a.csz) vs else none
  else if a.csz<=off then (putL l (off - a.csz) n vs).map (a::·) else none
def leafAt:List AV->Nat->Option AV
 | [],_=>none
 |a::l,off=>if off=0 then some a else if a.csz<=off then leafAt l (off - a.csz) else none
def setLeaf:List AV->Nat->AV->Option (List AV)
 | [],_,_=>none
 |a::l,off,v=>if off=0 then some (v::l) else if a.csz<=off then (setLeaf l (off - a.csz) v).map (a::·) else none
def Ty.hasSl:Ty->Bool
 |.sl _=>true
 |.pr a b=>a.hasSl||b.hasSl
 |.ar _ e=>e.hasSl
 |_=>false
def deepK:Ty->Bool
 |.sl t=>!t.hasSl
 |.pr a b=>deepK a&&deepK b
 |t=>!t.hasSl
def castL {t u:Ty} (xs:List t.D):Option (List u.D):=if h:t=u then some (h▸xs) else none
def arrAt (h:Heap) (id off:Nat):Option ((t:Ty)×List t.D):=
 match h id with
 |some (.row t xs _)=>if off=0 then some ⟨t,xs⟩ else none
 |some (.vars cs)=>
  match leafAt cs off with
  |some (.dat (.ar _ t) xs)=>some ⟨t,xs⟩
  |_=>none
 |_=>none
def arrV (h:Heap) (id off:Nat):Option ((t:Ty)×List t.D):=
 match h id with
 |some (.deep e xs _)=>if off=0 then some ⟨e,xs⟩ else none
 |_=>arrAt h id off
def setArr (h:Heap) (id off:Nat) (t:Ty) (ys:List t.D):Option Heap:=
 match h id with
 |some (.row u xs fr)=>if off=0/\fr=false then (castL ys).map fun zs=>Heap.set h id (.row u zs false) else none
 |some (.vars cs)=>
  match leafAt cs off with
  |some (.dat (.ar n u) _)=>(castL (u:=u) ys).bind fun zs=>(setLeaf cs off (.dat (.ar n u) zs)).map fun cs'=>Heap.set h id (.vars cs')
  |_=>none
 |_=>none
def elemsOf (h:Heap):AV->Option ((t:Ty)×List t.D)
 |.dat (.sl t) xs=>some ⟨t,xs⟩
 |.nz _ t xs=>some ⟨t,xs⟩
 |.full id=>arrAt h id 0
 |.sub id off lo hi=>match arrAt h id off with
  |some ⟨t,xs⟩=>some ⟨t,(xs.drop lo.toNat).take (hi - lo).toNat⟩
  |none=>none
 |_=>none
def asList (h:Heap) (t:Ty) (a:AV):Option (List t.D):=
 match a with
 |.nilS=>some []
 |a=>match elemsOf h a with
  |some ⟨_,xs⟩=>castL xs
  |none=>none
end
end Go.LM
namespace Go.LM
noncomputable section
def isRow (h:Heap):AV->Bool
 |.full id=>match h id with|some (.row ..)=>true|_=>false
 |.sub id _ _ _=>match h id with|some (.row ..)=>true|_=>false
 |_=>true
def isRowD (h:Heap):AV->Bool
 |.full id=>match h id with|some (.row ..)=>true|some (.deep _ _ none)=>true|_=>false
 |a=>isRow h a
def packU (h:Heap) (rows:Bool):(u:Ty)->List AV->Option (u.D×List AV)
 |.un,l=>some ((),l)
 |.pr a b,l=>
  let comp:=(packU h rows a l).bind fun (x,l1)=>(packU h rows b l1).bind fun (y,l2)=>some ((x,y),l2)
  match l with
  |.dat t x::rest=>if t=.pr a b then (cast' x).map fun y=>(y,rest) else comp
  |_=>comp
 |.sl e,l=>match l with
  |.nilS::rest=>some (([]:List e.D),rest)
  |.dat t x::rest=>(cast' (b:=.sl e) x).map fun y=>(y,rest)
  |a::rest=>if rows&&isRow h a then (asList h e a).map fun y=>(y,rest) else none
  | []=>none
 |u,l=>match l with
  |.dat t x::rest=>(cast' x).map fun y=>(y,rest)
  |_=>none
def isVal:AV->Bool
 |.any=>false
 |.tup _=>false
 |_=>true
def pack (h:Heap) (rows:Bool) (u:Ty) (a:AV):Option u.D:=
 if isVal a then
  match packU h rows u a.leaves with
  |some (x,[])=>some x
  |_=>none
 else none
def frz1 (h:Heap) (id:Nat):Heap:=fun j=>if j=id then (match h id with|some (.row t xs _)=>some (.row t xs true)|some (.deep e xs none)=>some (.row e xs true)|b=>b) else h j
def freezeL:List AV->Heap->Heap
 | [],h=>h
 |.full id::l,h=>freezeL l (frz1 h id)
 |.sub id _ _ _::l,h=>freezeL l (frz1 h id)
 |_::l,h=>freezeL l h
def hasRow:List AV->Bool
 | []=>false
 |.full _::_=>true
 |.sub ..::_=>true
 |_::l=>hasRow l
def ofVal:Value->AV
 |.bool b=>.dat .bool b
 |.int .u8 n=>if 0<=n/\n<256 then .dat (.int .u8) (ofI .u8 n) else .any
 |.int k n=>.dat (.int k) (ofI k n)
 |.string s=>.dat .str s.data.toList
 |.slice none 0 0=>.nilS
 |.pointer none=>.nilP
 |.nilFunc=>.nilF
 |.func (.func f) ⟨[]⟩ ⟨[]⟩=>.fn f []
 |_=>.any
def evalO (env:Nat->AV):Operand->AV
 |.tmp t=>env t
 |.const v=>ofVal v
 |.func f=>.fn f []
 |.global _=>.any
def bitsI (op:BinOp) (k:IntKind) (x y:Int):Int:=
 let a:=BitVec.ofInt k.bits x
 let b:=BitVec.ofInt k.bits y
 match op with
 |.and=>(a &&& b).toNat
 |.or=>(a ||| b).toNat
 |.xor=>(a ^^^ b).toNat
 |_=>(a &&& ~~~b).toNat
def exInt (op:BinOp) (k:IntKind) (x:Int) (k':IntKind) (y:Int):Option AV:=
 match op with
 |.shl=>if 0<=y then some (.dat (.int k) (wrI k (x*((2 ^ min y.toNat k.bits:Nat):Int)))) else none
 |.shr=>if 0<=y then some (.dat (.int k) (ofI k (x / ((2 ^ min y.toNat k.bits:Nat):Int)))) else none
 |op=>if k=k' then
   match op with
   |.add=>some (.dat (.int k) (wrI k (x+y)))
   |.sub=>some (.dat (.int k) (wrI k (x - y)))
   |.mul=>some (.dat (.int k) (wrI k (x*y)))
   |.quo=>if y=0 then none else some (.dat (.int k) (wrI k (x.tdiv y)))
   |.rem=>if y=0 then none else some (.dat (.int k) (ofI k (x.tmod y)))
   |.and=>some (.dat (.int k) (wrI k (bitsI .and k x y)))
   |.or=>some (.dat (.int k) (wrI k (bitsI .or k x y)))
   |.xor=>some (.dat (.int k) (wrI k (bitsI .xor k x y)))
   |.andNot=>some (.dat (.int k) (wrI k (bitsI .andNot k x y)))
   |.eql=>some (.dat .bool (x == y))
   |.neq=>some (.dat .bool (x != y))
   |.lss=>some (.dat .bool (decide (x<y)))
   |.leq=>some (.dat .bool (decide (x<=y)))
   |.gtr=>some (.dat .bool (decide (x>y)))
   |.geq=>some (.dat .bool (decide (x>=y)))
   |_=>none
  else none
def exStr (op:BinOp) (x y:List UInt8):Option AV:=
 match op with
 |.add=>if x.length+y.length<=4611686018427387904 then some (.dat .str (x++y)) else none
 |.eql=>some (.dat .bool (x == y))
 |.neq=>some (.dat .bool (!(x == y)))
 |_=>none
def eqB:(t:Ty)->t.D->t.D->Bool
 |.int k,x,y=>toI k x == toI k y
 |.bool,x,y=>(show Bool from x) == (show Bool from y)
 |.str,x,y=>(show List UInt8 from x) == (show List UInt8 from y)
 |_,_,_=>false
def plainTy (P:Program) (T:TypeId):Ty->Bool
 |.int _=>match P.underlying T with|some (.int _)=>true|_=>false
 |.bool=>match P.underlying T with|some .bool=>true|_=>false
 |.str=>match P.underlying T with|some .string=>true|_=>false
 |_=>false
def eqFs (P:Program):List Field->Nat->(t:Ty)->t.D->t.D->Option Bool
 | [],_,.un,_,_=>some true
 |f::fs,off,.pr a b,x,y=>match (f.name != "_")&&((f.offset == off)&&plainTy P f.type a) with
  |true=>(eqFs P fs (off+1) b x.2 y.2).map fun r=>eqB a x.1 y.1&&r
  |false=>none
 |_,_,_,_,_=>none
def eqSt (P:Program) (T:TypeId) (fs:Array Field) (t:Ty) (x y:t.D):Option Bool:=
 match P.stoodInHeld T||P.eqGuardType P.depth T with
 |true=>none
 |false=>eqFs P fs.toList 0 t x y
def gatherD:(t:Ty)->List AV->Option t.D
 |.un,[]=>some ()
 |.pr a b,.dat t x::l=>(cast' (a:=t) (b:=a) x).bind fun y=>(gatherD b l).map fun z=>(y,z)
 |_,_=>none
def exBin (P:Program) (T:TypeId) (op:BinOp) (a b:AV):Option AV:=
 match a,b with
 |.dat (.int k) x,.dat (.int k') y=>exInt op k (toI k x) k' (toI k' y)
 |.dat .str x,.dat .str y=>exStr op x y
 |.dat .bool x,.dat .bool y=>match P.underlying T,op with
  |some .bool,.eql=>some (.dat .bool (x == y))
  |some .bool,.neq=>some (.dat .bool (!(x == y)))
  |_,_=>none
 |.ptr _ _,.nilP=>match P.underlying T,op with
  |some (.pointer _),.eql=>some (.dat .bool false)
  |some (.pointer _),.neq=>some (.dat .bool true)
  |_,_=>none
 |.nz b _ _,.nilS=>match P.underlying T,op with
  |some (.slice _),.eql=>some (.dat .bool b)
  |some (.slice _),.neq=>some (.dat .bool (!b))
  |_,_=>none
 |.mp b _ _,.nilP=>match P.underlying T,op with
  |some (.pointer _),.eql=>some (.dat .bool (!b))
  |some (.pointer _),.neq=>some (.dat .bool b)
  |_,_=>none
 |.nilP,.nilP=>match P.underlying T,op with
  |some (.pointer _),.eql=>some (.dat .bool true)
  |some (.pointer _),.neq=>some (.dat .bool false)
  |_,_=>none
 |.dat (.pr ta tb) x,.dat (.pr tc td) y=>match P.underlying T,op,cast' (a:=.pr tc td) (b:=.pr ta tb) y with
  |some (.struct fs),.eql,some y=>(eqSt P T fs (.pr ta tb) x y).map fun r=>.dat .bool r
  |some (.struct fs),.neq,some y=>(eqSt P T fs (.pr ta tb) x y).map fun r=>.dat .bool (!r)
  |_,_,_=>none
 |.dat (.pr ta tb) x,.agg ys=>match P.underlying T,op,gatherD (.pr ta tb) ys with
  |some (.struct fs),.eql,some y=>(eqSt P T fs (.pr ta tb) x y).map fun r=>.dat .bool r
  |some (.struct fs),.neq,some y=>(eqSt P T fs (.pr ta tb) x y).map fun r=>.dat .bool (!r)
  |_,_,_=>none
 |_,_=>none
def exUn (op:UnOp) (a:AV):Option AV:=
 match op,a with
 |.neg,.dat (.int k) x=>some (.dat (.int k) (wrI k (0 - toI k x)))
 |.xor,.dat (.int k) x=>some (.dat (.int k) (wrI k (bitsI .xor k (if k.signed then -1 else k.max) (toI k x))))
 |.not,.dat .bool x=>some (.dat .bool (!x))
 |_,_=>none
def fieldOf (P:Program) (S:TypeId) (f:Nat):Option Field:=
 match P.underlying S with
 |some (.struct fs)=>fs[f]?
 |_=>none
def Pos.add (p:Pos) (n:Nat):Pos:=
 match p.path.reverse with
 | []=>⟨p.off+n,[]⟩
 |(i,o)::r=>⟨p.off,(((i,o+n)::r).reverse)⟩
def asVal (P:Program) (T:TypeId) (l:List AV):Option AV:=
 if isAggT P T then some (.agg l) else match l with | [a]=>if isMany a=isAggM P T then some a else none|_=>none
def exField (P:Program) (S:TypeId) (a:AV) (f:Nat):Option AV:=
 match fieldOf P S f with
 |none=>none
 |some fd=>match a with
  |.dat t x=>if isMany (.dat t x) then (tyC P fd.type).bind fun u=>(proj t x fd.offset u).map fun y=>.dat u y else none
  |.agg xs=>if hasT P fd.type then (takeL xs fd.offset (P.cellsOf fd.type)).bind (asVal P fd.type) else none
  |_=>none
def exFieldAddr (P:Program) (S:TypeId) (a:AV) (f:Nat):Option AV:=
 match fieldOf P S f with
 |none=>none
 |some fd=>if P.cellsOf fd.type=0 then none else match a with
  |.ptr id p=>some (.ptr id (p.add fd.offset))
  |.fptr t x=>(tyC P fd.type).bind fun u=>(proj t x fd.offset u).map fun y=>.fptr u y
  |_=>none
def exIndex (P:Program) (T:TypeId) (a:AV) (i:AV):Option AV:=
 match i with
 |.dat (.int k) n=>
  match P.underlying T,a with
  |some .string,.dat .str s=>if 0<=toI k n/\toI k n<s.length then some (.dat (.int .u8) (s.getD (toI k n).toNat (0:UInt8))) else none
  |some (.array len e),.dat (.ar m t) xs=>if elemIs P e t/\len=m then
    if 0<=toI k n/\toI k n<(len:Int) then some (.dat t (xs.getD (toI k n).toNat t.dflt)) else none else none
  |_,_=>none
 |_=>none
def arrLeaf (h:Heap) (id off:Nat):Option (Nat×Ty):=
 match h id with
 |some (.vars cs)=>match leafAt cs off with
  |some (.dat (.ar m t) _)=>some (m,t)
  |_=>none
 |_=>none
def exIndexAddr (P:Program) (T:TypeId) (h:Heap) (a:AV) (i:AV):Option AV:=
 match i with
 |.dat (.int k) n=>
  match P.underlying T with
  |some (.array len e)=>match a with
   |.ptr id p=>
    let ar:Option (Nat×Ty):=match p.path with
     | []=>arrLeaf h id p.off
     |(_,o)::rest=>match arrAt h id p.off with
      |some ⟨t,_⟩=>arrIn t o rest
      |none=>none
    match ar with
    |some (m,t)=>if elemIs P e t/\len=m then
      if 0<=toI k n/\toI k n<(len:Int) then some (.ptr id ⟨p.off,p.path++[(toI k n,0)]⟩) else none else none
    |none=>none
   |.fptr (.ar m t) xs=>if elemIs P e t/\len=m then
      if 0<=toI k n/\toI k n<(len:Int) then some (.fptr t (xs.getD (toI k n).toNat t.dflt)) else none else none
   |_=>none
  |some (.slice e)=>match a with
   |.dat (.sl t) xs=>if elemIs P e t then
     if 0<=toI k n/\toI k n<List.length (α:=t.D) xs then some (.fptr t (xs.getD (toI k n).toNat t.dflt)) else none else none
   |.full id=>match arrV h id 0 with
    |some ⟨t,xs⟩=>if elemIs P e t then if 0<=toI k n/\toI k n<xs.length then some (.ptr id ⟨0,[(toI k n,0)]⟩) else none else none
    |none=>none
   |.sub id off lo hi=>match arrAt h id off with
    |some ⟨t,_⟩=>if elemIs P e t then if 0<=toI k n/\toI k n<hi - lo then some (.ptr id ⟨off,[(lo+toI k n,0)]⟩) else none else none
    |none=>none
   |_=>none
  |_=>none
 |_=>none
def exLoad (P:Program) (T:TypeId) (h:Heap) (a:AV):Option AV:=
 match a with
 |.fptr t x=>(tyC P T).bind fun u=>(cast' x).map fun y=>.dat u y
 |.ptr id p=>match p.path with
  | []=>match h id with
   |some (.vars cs)=>if hasT P T then (takeL cs p.off (P.cellsOf T)).bind (asVal P T) else none
   |_=>none
  |(i,o)::rest=>match arrAt h id p.off with
   |some ⟨t,xs⟩=>(tyC P T).bind fun u=>(getP rest t (xs.getD i.toNat t.dflt) o u).map fun y=>.dat u y
   |none=>none
 |_=>none
def exStore (P:Program) (T:TypeId) (h:Heap) (a v:AV):Option Heap:=
 match a with
 |.ptr id p=>match p.path with
  | []=>match h id with
   |some (.vars cs)=>if cellsL v.leaves=P.cellsOf T/\P.cellsOf T≠0 then (putL cs p.off (P.cellsOf T) v.leaves).bind fun cs'=>if cs'.map leafSh=cs.map leafSh/\flat cs'=true then some (h.set id (.vars cs')) else none
     else none
   |_=>none
  |(i,o)::rest=>match arrAt h id p.off with
   |some ⟨t,xs⟩=>(tyC P T).bind fun u=>(pack h false u v).bind fun y=>(setP rest t (xs.getD i.toNat t.dflt) o u y).bind fun z=>setArr h id p.off t (xs.set i.toNat z)
   |none=>none
 |_=>none
def bound (d:Int):Option AV->Option Int
 |none=>some d
 |some (.dat (.int k) x)=>some (toI k x)
 |_=>none
def exSlice (P:Program) (T:TypeId) (h:Heap) (a:AV) (lo hi:Option AV) (mx:Bool):Option AV:=
 if mx then none else
 match P.underlying T,a with
 |some .string,.dat .str s=>(bound 0 lo).bind fun l=>(bound s.length hi).bind fun r=>
   if 0<=l/\l<=r/\r<=s.length then some (.dat .str ((s.drop l.toNat).take (r - l).toNat)) else none
 |some (.slice e),.dat (.sl t) xs=>if elemIs P e t then (bound 0 lo).bind fun l=>(bound (List.length (α:=t.D) xs) hi).bind fun r=>
   if 0<=l/\l<=r/\r<=List.length (α:=t.D) xs then some (.dat (.sl t) ((xs.drop l.toNat).take (r - l).toNat)) else none else none
 |some (.slice e),.full id=>match arrAt h id 0 with
  |some ⟨t,xs⟩=>if elemIs P e t then (bound 0 lo).bind fun l=>(bound xs.length hi).bind fun r=>
   if 0<=l/\l<=r/\r<=xs.length then some (.sub id 0 l r) else none else none
  |none=>none
 |some (.slice e),.sub id off b q=>match arrAt h id off with
  |some ⟨t,_⟩=>if elemIs P e t then (bound 0 lo).bind fun l=>(bound (q - b) hi).bind fun r=>
   if 0<=l/\l<=r/\r<=q - b then some (.sub id off (b+l) (b+r)) else none else none
  |none=>none
 |some (.array n e),.ptr id p=>match p.path,arrLeaf h id p.off with
  | [],some (m,t)=>if elemIs P e t/\n=m then (bound 0 lo).bind fun l=>(bound n hi).bind fun r=>
   if 0<=l/\l<=r/\r<=n then some (.sub id p.off l r) else none else none
  |_,_=>none
 |_,_=>none
def boundS:Option AV->Option Int
 |some (.dat (.int k) x)=>some (toI k x)
 |_=>none
def exSlice3 (P:Program) (T:TypeId) (a:AV) (lo hi mx:Option AV):Option AV:=
 match P.underlying T,a with
 |some (.slice e),.dat (.sl t) xs=>if elemIs P e t then (boundS lo).bind fun l=>(boundS hi).bind fun r=>(boundS mx).bind fun m=>
   if 0<=l/\l<=r/\r<=m/\m<=List.length (α:=t.D) xs then some (.dat (.sl t) ((xs.drop l.toNat).take (r - l).toNat)) else none else none
 |_,_=>none
def isZero:Option AV->Bool
 |none=>true
 |some (.dat (.int k) x)=>decide (toI k x=0)
 |_=>false
def isZero1:Option AV->Bool
 |some (.dat (.int k) x)=>decide (toI k x=0)
 |_=>false
def exEmpty (P:Program) (T:TypeId) (h:Heap) (id0:Nat) (a:AV) (lo hi mx:Option AV):Option (AV×Heap×Bool):=
 match P.underlying T with
 |some (.slice e)=>match a with
  |.dat (.sl t) _=>if elemIs P e t&&isZero lo&&isZero1 hi&&isZero1 mx then some (.full id0,h.set id0 (.row t [] false),false) else none
  |.nilS=>match tyC P e with
   |some t=>if isZero lo&&isZero1 hi&&isZero1 mx then some (.full id0,h.set id0 (.row t [] false),false) else none
   |none=>none
  |.full id=>match arrAt h id 0 with
   |some ⟨t,_⟩=>if elemIs P e t&&isZero lo&&isZero1 hi&&isZero1 mx then some (.full id0,h.set id0 (.row t [] false),false) else none
   |none=>none
  |.sub id off _ _=>match arrAt h id off with
   |some ⟨t,_⟩=>if elemIs P e t&&isZero lo&&isZero1 hi&&isZero1 mx then some (.full id0,h.set id0 (.row t [] false),false) else none
   |none=>none
  |_=>none
 |_=>none
def lenOf (P:Program) (T:TypeId) (h:Heap) (a:AV):Option Int:=
 match P.underlying T,a with
 |some .string,.dat .str s=>some s.length
 |some (.slice _),.dat (.sl t) xs=>some (List.length (α:=t.D) xs)
 |some (.array n _),_=>some n
 |some (.slice _),.nilS=>some 0
 |some (.slice _),.nz _ t xs=>some (List.length (α:=t.D) xs)
 |some (.slice _),.full id=>(arrV h id 0).map fun ⟨_,xs⟩=>(xs.length:Int)
 |some (.slice _),.sub _ _ lo hi=>some (hi - lo)
 |some (.pointer A),_=>match P.underlying A with
   |some (.array n _)=>some n
   |_=>none
 |_,_=>none
abbrev Run:=FuncId->List AV->Nat->Heap->Option (AV×Heap×Nat)
structure Cx where
 P:Program
 run:Run
 own:FuncId->List Bool
 deep:TypeId->Bool
 ro:FuncId->Bool
 roOK:∀ f args pin h r h1 n1,ro f=true->run f args pin h=some (r,h1,n1)->n1=pin/\∀ j,j<pin->h1 j=h j
def elemTy (P:Program) (T:TypeId):Option (TypeId×Ty):=
 match P.underlying T with
 |some (.slice e)=>(tyC P e).map fun t=>(e,t)
 |_=>none
def maxBytes:Nat:=140737488355328
def setPart (P:Program) (S:TypeId) (cs:List AV) (i:Nat) (v:AV):Option (List AV):=
 match fieldOf P S i with
 |some fd=>if cellsL v.leaves=P.cellsOf fd.type/\P.cellsOf fd.type≠0 then putL cs fd.offset (P.cellsOf fd.type) v.leaves else none
 |none=>none
def setParts (P:Program) (S:TypeId):List (Nat×AV)->List AV->Option (List AV)
 | [],cs=>some cs
 |(i,v)::l,cs=>(setPart P S cs i v).bind (setParts P S l)
def setElems (h:Heap) (t:Ty):List (Nat×AV)->List t.D->Option (List t.D)
 | [],xs=>some xs
 |(i,v)::l,xs=>(pack h true t v).bind fun x=>setElems h t l (xs.set i x)
def exBuild (P:Program) (h:Heap) (T:TypeId) (parts:List (Nat×AV)):Option AV:=
 match P.underlying T with
 |some (.struct fs)=>if fs.toList.all fun f=>(P.info? f.type).isSome then (zeroL P T).bind fun z=>(setParts P T parts z).map .agg else none
 |some (.array n e)=>(tyC P e).bind fun t=>if parts.any (fun p=>hasRow p.2.leaves) then none else
   (zeroD P T (.ar n t)).bind fun z=>if parts.all fun p=>p.1<n then (setElems h t parts z).map fun xs=>.dat (.ar n t) xs else none
 |_=>none
abbrev Res:=Option (AV×Heap×Bool)
def soft (h:Heap) (a:Option AV):Res:=a.map fun v=>(v,h,false)
def exConvert (P:Program) (src dst:TypeId) (h:Heap) (id0:Nat) (a:AV):Res:=
 match P.underlying src,P.underlying dst with
 |some (.int _),some (.int k)=>match a with
  |.dat (.int j) x=>some (.dat (.int k) (wrI k (toI j x)),h,false)
  |_=>none
 |some .string,some .string=>match a with
  |.dat .str s=>some (.dat .str s,h,false)
  |_=>none
 |some (.slice e),some .string=>if elemIs P e (.int .u8) then (asList h (.int .u8) a).map fun xs=>(.dat .str xs,h,false) else none
 |some .string,some (.slice e)=>if elemIs P e (.int .u8) then match a with
  |.dat .str s=>some (.full id0,h.set id0 (.row (.int .u8) s false),false)
  |_=>none else none
 |some (.slice _),some (.slice e)=>if src=dst/\elemIs P e (.int .u8)=true then match a with
  |.full id=>match h id with
   |some (.row _ (_::_) false)=>some (.full id,h,false)
   |_=>none
  |_=>none else none
 |_,_=>none
def keyK:Ty->Bool
 |.int _=>true
 |.str=>true
 |_=>false
def keyEq:(k:Ty)->k.D->k.D->Bool
 |.int k,x,y=>toI k x == toI k y
 |.str,x,y=>(show List UInt8 from x) == (show List UInt8 from y)
 |_,_,_=>false
def mapFind {k v:Ty} (x:k.D):List (k.D×v.D)->Nat->Option (Nat×v.D)
 | [],_=>none
 |e::l,i=>bif keyEq k x e.1 then some (i,e.2) else mapFind x l (i+1)
def mapTys (P:Program) (T:TypeId):Option (Ty×Ty×TypeId):=match P.underlying T with
 |some (.map K E)=>(tyC P K).bind fun k=>(tyC P E).bind fun v=>if keyK k then some (k,v,E) else none
 |_=>none
def keyOfA (k:Ty):AV->Option k.D
 |.dat t x=>cast' (a:=t) (b:=k) x
 |_=>none
def mapOfA (k v:Ty) (h:Heap):AV->Option (Nat×List (k.D×v.D))
 |.mref id=>match h id with
  |some (.mapB k' v' es)=>(castL (t:=.pr k' v') (u:=.pr k v) es).map fun q=>(id,q)
  |_=>none
 |_=>none
def exMakeMap (P:Program) (T:TypeId) (h:Heap) (id0:Nat) (r:Option AV):Res:=
 (mapTys P T).bind fun (k,v,_)=>match r with
  |none=>some (.mref id0,h.set id0 (.mapB k v []),false)
  |some (.dat (.int _) _)=>some (.mref id0,h.set id0 (.mapB k v []),false)
  |_=>none
def okShape:Bool->Value->Bool
 |true,.agg _=>true
 |true,_=>false
 |false,z=>z.oneCell'
def zeroM (P:Program) (T:TypeId) (u:Ty):Option u.D:=(zeroD P T u).bind fun x=>match zeroOf P T with
 |some z=>if okShape (isMany (.dat u x)) z then some x else none
 |none=>none
def exLookup (P:Program) (T:TypeId) (h:Heap) (a x:AV) (ok:Bool):Option AV:=
 (mapTys P T).bind fun (k,v,E)=>(mapOfA k v h a).bind fun (_,es)=>(keyOfA k x).bind fun y=>(zeroM P E v).map fun z=>
  match ok with
  |true=>.tup [.dat v ((mapFind y es 0).elim z fun q=>q.2),.dat .bool (mapFind y es 0).isSome]
  |false=>.dat v ((mapFind y es 0).elim z fun q=>q.2)
def mapPut {k v:Ty} (y:k.D) (z:v.D) (es:List (k.D×v.D)):List (k.D×v.D):=match mapFind y es 0 with
 |some (i,_)=>es.set i (y,z)
 |none=>es++[(y,z)]
def exMapUpdate (P:Program) (T:TypeId) (h:Heap) (a x b:AV):Option Heap:=
 (mapTys P T).bind fun (k,v,_)=>(mapOfA k v h a).bind fun (id,es)=>(keyOfA k x).bind fun y=>(pack h false v b).bind fun z=>
  if isMany b == isMany (.dat v z) then some (h.set id (.mapB k v (mapPut y z es))) else none
mutual
def idsA:AV->List Nat
 |.full id=>[id]
 |.sub id _ _ _=>[id]
 |.ptr id _=>[id]
 |.mref id=>[id]
 |.fn _ cs=>idsL cs
 |.agg xs=>idsL xs
 |.tup xs=>idsL xs
 |_=>[]
def idsL:List AV->List Nat
 | []=>[]
 |a::l=>idsA a++idsL l
end
mutual
def renA (f:Nat->Nat):AV->AV
 |.full id=>.full (f id)
 |.sub id off lo hi=>.sub (f id) off lo hi
 |.ptr id p=>.ptr (f id) p
 |.mref id=>.mref (f id)
 |.fn g cs=>.fn g (renL f cs)
 |.agg xs=>.agg (renL f xs)
 |.tup xs=>.tup (renL f xs)
 |a=>a
def renL (f:Nat->Nat):List AV->List AV
 | []=>[]
 |a::l=>renA f a::renL f l
end
def idsB:Blk->List Nat
 |.vars cs=>idsL cs
 |.deep _ _ (some (_,_,id))=>[id]
 |_=>[]
def renB (f:Nat->Nat):Blk->Blk
 |.vars cs=>.vars (renL f cs)
 |.deep e xs (some (i,o,id))=>.deep e xs (some (i,o,f id))
 |b=>b
def addNew (acc:List Nat):List Nat->List Nat
 | []=>acc
 |x::l=>addNew (if acc.contains x then acc else acc++[x]) l
def reach (h:Heap):Nat->List Nat->List Nat
 |0,l=>l
 |n+1,l=>
  let l':=addNew l (l.flatMap fun id=>match h id with|some b=>idsB b|none=>[])
  if l'.length=l.length then l else reach h n l'
def closedB (h:Heap) (l:List Nat):Bool:=l.all fun id=>match h id with|some b=>(idsB b).all l.contains|none=>false
mutual
def exportA (h:Heap):AV->Option AV
 |.full id=>if isRowD h (.full id) then (arrV h id 0).map fun ⟨t,xs⟩=>.dat (.sl t) xs else none
 |.sub id off lo hi=>if isRow h (.sub id off lo hi) then (elemsOf h (.sub id off lo hi)).map fun ⟨t,xs⟩=>.dat (.sl t) xs else none
 |.nilS=>some .nilS
 |.agg xs=>(exportL h xs).map .agg
 |a=>some a
def exportL (h:Heap):List AV->Option (List AV)
 | []=>some []
 |a::l=>(exportA h a).bind fun b=>(exportL h l).map (b::·)
end
def exportAll (h:Heap):List Bool->List AV->Option (List AV)
 |_,[]=>some []
 |true::m,a::l=>(exportAll h m l).map (a::·)
 |_::m,a::l=>(exportA h a).bind fun b=>(exportAll h m l).map (b::·)
 | [],a::l=>(exportA h a).bind fun b=>(exportAll h [] l).map (b::·)
def lentRows:List Bool->List AV->List AV
 |_,[]=>[]
 |true::m,_::l=>lentRows m l
 |_::m,a::l=>a.leaves++lentRows m l
 | [],a::l=>a.leaves++lentRows [] l
def rowOnly:AV->Bool
 |.full _=>true
 |.sub ..=>true
 |_=>false
mutual
def noSl:AV->Bool
 |.dat t _=>!t.hasSl
 |.fptr _ _=>false
 |.nz ..=>false
 |.mp ..=>false
 |.fn _ cs=>noSlL cs
 |.agg xs=>noSlL xs
 |.tup xs=>noSlL xs
 |_=>true
def noSlL:List AV->Bool
 | []=>true
 |a::l=>noSl a&&noSlL l
end
def noSlB:Option Blk->Bool
 |some (.row t _ fr)=>!t.hasSl&&!fr
 |some (.vars cs)=>noSlL cs
 |some (.mapB k v _)=>!k.hasSl&&!v.hasSl
 |_=>true
def idxOf (x:Nat):List Nat->Nat->Option Nat
 | [],_=>none
 |y::l,k=>if x=y then some k else idxOf x l (k+1)
def nodupB:List Nat->Bool
 | []=>true
 |x::l=>!l.contains x&&nodupB l
def backOf (moved:List Nat) (id0:Nat) (j:Nat):Nat:=match moved[j]? with|some id=>id|none=>id0+(j - moved.length)
def mergeH (h h1:Heap) (moved:List Nat) (id0 n1:Nat):Heap:=fun id=>match idxOf id moved 0 with
 |some j=>(h1 j).map (renB (backOf moved id0))
 |none=>if id0<=id/\id<id0+(n1 - moved.length) then (h1 (moved.length+(id - id0))).map (renB (backOf moved id0)) else h id
def subH (h:Heap) (moved:List Nat) (toN:Nat->Nat):Heap:=fun j=>match moved[j]? with|some id=>(h id).map (renB toN)|none=>none
def closeD (h:Heap) (id:Nat):Option ((e:Ty)×List e.D×Heap):=
 match h id with
 |some (.deep e xs none)=>some ⟨e,xs,h⟩
 |some (.deep e xs (some (i,o,id')))=>match h id' with
  |some (.row t ys false)=>(inj e (xs.getD i.toNat e.dflt) o (.sl t) ys).map fun x=>⟨e,xs.set i.toNat x,(h.set id' .dead).set id (.deep e (xs.set i.toNat x) none)⟩
  |_=>none
 |_=>none
def isDeep (h:Heap) (id:Nat):Bool:=match h id with|some (.deep ..)=>true|_=>false
def holeB (h:Heap) (id:Nat):Bool:=match h id with|some (.deep _ _ (some _))=>true|_=>false
def closeH (h:Heap) (id:Nat):Heap:=match closeD h id with|some ⟨_,_,h1⟩=>h1|none=>h
def closeIds:List Nat->Heap->Heap
 | [],h=>h
 |id::l,h=>closeIds l (if holeB h id then closeH h id else h)
def stripB:Blk->Blk
 |.deep e xs _=>.deep e xs none
 |b=>b
def holeId (h:Heap) (id:Nat):Nat:=match h id with|some (.deep _ _ (some (_,_,j)))=>j|_=>0
def exCall0 (cx:Cx) (f:FuncId) (args:List AV) (h:Heap) (id0:Nat):Res:=
 (exportAll h (cx.own f) args).bind fun as=>
 let moved:=reach h 8 (addNew [] (idsL as))
 let lent:=(lentRows (cx.own f) args).filter rowOnly
 if closedB h moved&&nodupB moved&&(idsL as).all moved.contains&&(idsL lent).all (fun i=>!moved.contains i)&&moved.all (fun i=>decide (i<id0))&&lent.all (isRowD h) then
  let toN:=fun id=>(idxOf id moved 0).getD 0
  (cx.run f (renL toN as) moved.length (subH h moved toN)).bind fun (r,h1,n1)=>
  let h2:=mergeH h h1 moved id0 n1
  let fr:=hasRow lent&&!(noSl r&&(List.range n1).all fun j=>noSlB (h1 j))
  if n1 - moved.length<=1000&&moved.length<=n1 then some (renA (backOf moved id0) r,if fr then freezeL lent h2 else h2,fr||(moved != []&&!cx.ro f)) else none
 else none
def exCall (cx:Cx) (f:FuncId) (args:List AV) (h:Heap) (id0:Nat):Res:=
 match exCall0 cx f args h id0 with
 |some r=>some r
 |none=>
  let l:=reach h 8 (addNew [] (idsL args))
  match l.any (holeB h) with
  |true=>(exCall0 cx f args (closeIds l h) id0).map fun r=>(r.1,r.2.1,true)
  |false=>none
def srcOf (P:Program) (T:TypeId) (h:Heap) (t:Ty) (b:AV):Option (List t.D):=
 match P.underlying T with
 |some .string=>match b with
  |.dat .str s=>castL (t:=.int .u8) (u:=t) s
  |_=>none
 |some (.slice _)=>asList h t b
 |_=>none
def exAppend (P:Program) (T U:TypeId) (h:Heap) (id0:Nat) (a b:AV):Res:=
 (elemTy P T).bind fun (e,t)=>(zeroD P e t).bind fun _=>if P.bytesOf e=0 then none else
 (srcOf P U h t b).bind fun ys=>
 match a with
 |.nilS=>if ys.length*P.bytesOf e<=maxBytes then some (.full id0,h.set id0 (.row t ys false),false) else none
 |.full id=>match h id with
  |some (.row u xs false)=>(castL xs).bind fun zs=>
   if (zs.length+ys.length)*P.bytesOf e<=maxBytes then some (.full id0,(h.set id .dead).set id0 (.row t (zs++ys) false),true) else none
  |_=>none
 |_=>none
def exCopy (P:Program) (T U:TypeId) (h:Heap) (a b:AV):Res:=
 (elemTy P T).bind fun (e,t)=>
 (match a with
  |.full id=>(arrAt h id 0).map fun (p:(t:Ty)×List t.D)=>(id,0,(0:Int),(p.2.length:Int))
  |.sub id off lo hi=>some (id,off,lo,hi)
  |_=>none:Option (Nat×Nat×Int×Int)).bind fun (id,off,lo,hi)=>
 match arrAt h id off with
 |some ⟨u,xs⟩=>(castL (u:=t) xs).bind fun zs=>(srcOf P U h t b).bind fun ys=>
  (setArr h id off t (zs.take lo.toNat++(ys.take (hi - lo).toNat++zs.drop (lo.toNat+min ys.length (hi - lo).toNat)))).map fun h'=>
   (.dat (.int .i64) ((min ys.length (hi - lo).toNat:Nat):Int),h',true)
 |none=>none
def slOf:Ty->Option Ty
 |.sl t=>some t
 |_=>none
def exLoadD (P:Program) (T:TypeId) (h:Heap) (id0 id:Nat) (i:Int) (o:Nat):Res:=
 (tyC P T).bind fun u=>
 match slOf u with
 |some t=>(closeD h id).bind fun ⟨e,xs,h1⟩=>(proj e (xs.getD i.toNat e.dflt) o (.sl t)).map fun ys=>
   (.full id0,(h1.set id (.deep e xs (some (i,o,id0)))).set id0 (.row t ys false),true)
 |none=>if u.hasSl then
   (closeD h id).bind fun ⟨e,xs,h1⟩=>(proj e (xs.getD i.toNat e.dflt) o u).map fun y=>(.dat u y,h1.set id (.row e xs true),true)
  else match h id with
   |some (.deep e xs _)=>(proj e (xs.getD i.toNat e.dflt) o u).map fun y=>(.dat u y,h,false)
   |_=>none
def putD (hole:Option (Int×Nat×Nat)) (e:Ty) (xs:List e.D) (id:Nat) (i:Int) (o:Nat) (t:Ty) (ys:List t.D) (h1:Heap):Option Heap:=
 match hole with
 |none=>(inj e (xs.getD i.toNat e.dflt) o (.sl t) ys).map fun x=>h1.set id (.deep e (xs.set i.toNat x) none)
 |some (j,o',_)=>if j=i/\o'=o then (inj e (xs.getD i.toNat e.dflt) o (.sl t) ys).map fun x=>h1.set id (.deep e (xs.set i.toNat x) none) else none
def exStoreD (P:Program) (T:TypeId) (h:Heap) (id:Nat) (i:Int) (o:Nat) (v:AV):Option Heap:=
 (tyC P T).bind fun u=>
 match slOf u,h id with
 |some t,some (.deep e xs hole)=>
  match v with
  |.nilS=>putD hole e xs id i o t [] h
  |.full id1=>match h id1 with
   |some (.row t' ys false)=>(castL (u:=t) ys).bind fun zs=>putD hole e xs id i o t zs (h.set id1 .dead)
   |_=>none
  |_=>none
 |none,some (.deep e xs hole)=>if u.hasSl then none else
   (pack h false u v).bind fun y=>(inj e (xs.getD i.toNat e.dflt) o u y).map fun x=>h.set id (.deep e (xs.set i.toNat x) hole)
 |_,_=>none
def packD (h:Heap):(u:Ty)->List AV->Option (u.D×List AV×List Nat)
 |.un,l=>some ((),l,[])
 |.pr a b,l=>
  let comp:=(packD h a l).bind fun (x,l1,m1)=>(packD h b l1).bind fun (y,l2,m2)=>some ((x,y),l2,m1++m2)
  match l with
  |.dat t x::rest=>if (Ty.pr a b).hasSl then comp else if t=.pr a b then (cast' x).map fun y=>(y,rest,[]) else comp
  |_=>comp
 |.sl e,l=>match l with
  |.nilS::rest=>some (([]:List e.D),rest,[])
  |.full id::rest=>match h id with
   |some (.row t ys false)=>(castL (u:=e) ys).map fun zs=>(zs,rest,[id])
   |_=>none
  |_=>none
 |u,l=>match l with
  |.dat t x::rest=>(cast' x).map fun y=>(y,rest,[])
  |_=>none
def killL:List Nat->Heap->Heap
 | [],h=>h
 |id::l,h=>killL l (h.set id .dead)
def exBuildD (P:Program) (T:TypeId) (h:Heap) (id0:Nat) (v:AV):Res:=
 (elemTy P T).bind fun (e,u)=>if deepK u=false\/u.sz=0\/2 ^ 24<u.sz then none else
  match packD h u v.leaves with
  |some (x,[],m)=>if isVal v&&nodupB m&&!m.contains id0 then (zeroD P e u).bind fun _=>some (.full id0,(killL m h).set id0 (.deep u [x] none),true) else none
  |_=>none
def exAppendD (P:Program) (T U:TypeId) (h:Heap) (id0:Nat) (a:AV) (idb:Nat):Res:=
 match P.underlying U with
 |some (.slice _)=>(elemTy P T).bind fun (e,u)=>(zeroD P e u).bind fun _=>if P.bytesOf e=0 then none else
  match a with
  |.nilS=>match h idb with
   |some (.deep u' ys none)=>(castL (u:=u) ys).bind fun ys=>
    if ys.length*P.bytesOf e<=maxBytes then some (.full id0,(h.set idb .dead).set id0 (.deep u ys none),true) else none
   |_=>none
  |.full ida=>if ida=idb then none else (closeD h ida).bind fun ⟨u'',xs,h1⟩=>match h1 idb with
   |some (.deep u' ys none)=>(castL (u:=u) xs).bind fun xs=>(castL (u:=u) ys).bind fun ys=>
    if (xs.length+ys.length)*P.bytesOf e<=maxBytes then some (.full id0,((h1.set ida .dead).set idb .dead).set id0 (.deep u (xs++ys) none),true) else none
   |_=>none
  |_=>none
 |_=>none
def exMakeD (P:Program) (T:TypeId) (h:Heap) (id0:Nat) (a b:AV):Res:=
 match a,b with
 |.dat (.int i) x,.dat (.int j) y=>(elemTy P T).bind fun (e,u)=>(zeroD P e u).bind fun z=>
   if 0<=toI i x/\toI i x<=toI j y/\(toI j y).toNat*P.bytesOf e<=maxBytes then if P.bytesOf e=0\/deepK u=false then none else
    some (.full id0,h.set id0 (.deep u (List.replicate (toI i x).toNat z) none),false) else none
 |_,_=>none
def min2 (mx:Bool):AV->AV->Option AV
 |.dat (.int k) x,.dat (.int j) y=>if k=j then
   some (.dat (.int k) (ofI k (if mx then (if toI j y>toI k x then toI j y else toI k x) else (if toI j y<toI k x then toI j y else toI k x)))) else none
 |_,_=>none
def minL (mx:Bool):List AV->AV->Option AV
 | [],x=>some x
 |y::l,x=>(min2 mx x y).bind (minL mx l)
def exBuiltin (P:Program) (b:Builtin) (ts:List TypeId) (args:List AV) (T:TypeId) (h:Heap) (id0:Nat):Res:=
 match b,args with
 |.len,[x]=>match ts with
  | [T]=>soft h ((lenOf P T h x).map fun n=>.dat (.int .i64) n)
  |_=>none
 |.append,[x,y]=>match ts with
  | [T,U]=>match y with
   |.full idb=>if isDeep h idb then exAppendD P T U h id0 x idb else exAppend P T U h id0 x y
   |y=>exAppend P T U h id0 x y
  |_=>none
 |.copy,[x,y]=>match ts with
  | [T,U]=>exCopy P T U h x y
  |_=>none
 |.min,x::l=>soft h (minL false l x)
 |.max,x::l=>soft h (minL true l x)
 |_,_=>none
def deep1 (b:Bool) (n:Nat) (l:List (Nat×Operand)):Option Operand:=
 match b,n,l with
 |true,1,[(0,x)]=>some x
 |_,_,_=>none
def deepAt (h:Heap):AV->Option (Nat×Int×Nat)
 |.ptr id p=>match p.path with
  | [(i,o)]=>if p.off=0/\isDeep h id=true then some (id,i,o) else none
  |_=>none
 |_=>none
def exLoadAny (P:Program) (T:TypeId) (h:Heap) (id0:Nat) (a:AV):Res:=
 match deepAt h a with
 |some (id,i,o)=>exLoadD P T h id0 id i o
 |none=>soft h (exLoad P T h a)
def exStoreAny (P:Program) (T:TypeId) (h:Heap) (a v:AV):Option Heap:=
 match deepAt h a with
 |some (id,i,o)=>exStoreD P T h id i o v
 |none=>exStore P T h a v
def litT:Nat:=1048576
def allDat:List (Nat×AV)->Bool
 | []=>true
 |(_,.dat _ _)::l=>allDat l
 |(_,.agg ls)::l=>!hasRow ls&&allDat l
 |_::_=>false
def exLit (P:Program) (t:TypeId) (n:Nat) (parts:List (Nat×AV)):Option AV:=
 (elemTy P t).bind fun (e,u)=>(zeroD P e u).bind fun z=>if 2 ^ 24<n*u.sz\/n*u.sz=0\/(parts.any fun p=>decide (n<=p.1))=true\/allDat parts=false then none else
  (setElems (fun _=>none) u parts (List.replicate n z)).map fun xs=>.dat (.sl u) xs
def exMakeDat (P:Program) (T:TypeId) (a b:AV):Option AV:=
 match a,b with
 |.dat (.int i) x,.dat (.int j) y=>(elemTy P T).bind fun (e,u)=>(zeroD P e u).bind fun z=>
  if 0<=toI i x/\toI i x<=toI j y/\(toI j y).toNat*P.bytesOf e<=maxBytes then if P.bytesOf e=0 then none else some (.dat (.sl u) (List.replicate (toI i x).toNat z)) else none
 |_,_=>none
def exOp (cx:Cx) (ρ:Operand->AV) (o:Op) (T:TypeId) (h:Heap) (id0:Nat):Res:=
 match o with
 |.move x=>some (ρ x,h,false)
 |.assign x=>some (ρ x,h,false)
 |.pick c a b=>match ρ c with
  |.dat .bool true=>some (ρ a,h,false)
  |.dat .bool false=>some (ρ b,h,false)
  |_=>none
 |.alloc e=>(zeroL cx.P e).bind fun l=>if flat l then some (.ptr id0 ⟨0,[]⟩,h.set id0 (.vars l),false) else none
 |.box e x=>if cellsL (ρ x).leaves=cx.P.cellsOf e/\cx.P.cellsOf e≠0/\flat (ρ x).leaves=true then some (.ptr id0 ⟨0,[]⟩,h.set id0 (.vars (ρ x).leaves),false) else none
 |.build t ps=>soft h (exBuild cx.P h t (ps.toList.map fun (i,x)=>(i,ρ x)))
 |.buildSlice t n ps=>match cx.deep (t+litT) with
  |true=>soft h (exLit cx.P t n (ps.toList.map fun (i,x)=>(i,ρ x)))
  |false=>match deep1 (cx.deep t) n ps.toList with
  |some x=>exBuildD cx.P t h id0 (ρ x)
  |none=>(elemTy cx.P t).bind fun (e,u)=>(zeroD cx.P e u).bind fun z=>if 2 ^ 24<n*u.sz\/(n≠0/\n*u.sz=0)\/(ps.toList.any fun p=>decide (n<=p.1))=true then none else
   let ls:=ps.toList.flatMap fun (_,x)=>(ρ x).leaves
   let h1:=freezeL ls h
   (setElems h1 u (ps.toList.map fun (i,x)=>(i,ρ x)) (List.replicate n z)).map fun xs=>(.full id0,h1.set id0 (.row u xs false),hasRow ls)
 |.load t a=>exLoadAny cx.P t h id0 (ρ a)
 |.store t a v=>(exStoreAny cx.P t h (ρ a) (ρ v)).map fun h'=>(.any,h',true)
 |.nilCheck x=>match ρ x with
  |.ptr id p=>some (.ptr id p,h,false)
  |.fptr t y=>some (.fptr t y,h,false)
  |.mp true t y=>some (.fptr t y,h,false)
  |.fn f cs=>some (.fn f cs,h,false)
  |_=>none
 |.binOp op t x y _=>soft h (exBin cx.P t op (ρ x) (ρ y))
 |.unOp op _ x=>soft h (exUn op (ρ x))
 |.convert s d x=>exConvert cx.P s d h id0 (ρ x)
 |.makeFunc (.func f) first caps=>if first.size=0 then some (.fn f (caps.toList.map ρ),h,false) else none
 |.makeSlice t l c=>match cx.deep (t+litT) with
  |true=>soft h (exMakeDat cx.P t (ρ l) (ρ c))
  |false=>if cx.deep t then exMakeD cx.P t h id0 (ρ l) (ρ c) else match ρ l,ρ c with
  |.dat (.int i) x,.dat (.int j) y=>(elemTy cx.P t).bind fun (e,u)=>(zeroD cx.P e u).bind fun z=>
   if 0<=toI i x/\toI i x<=toI j y/\(toI j y).toNat*cx.P.bytesOf e<=maxBytes then if cx.P.bytesOf e=0 then none else
    some (.full id0,h.set id0 (.row u (List.replicate (toI i x).toNat z) false),false) else none
  |_,_=>none
 |.slice t x lo hi mx=>match mx with
  |some m=>match lo with
   |none=>exEmpty cx.P t h id0 (ρ x) none (hi.map ρ) (some (ρ m))
   |some l=>soft h (exSlice3 cx.P t (ρ x) (some (ρ l)) (hi.map ρ) (some (ρ m)))
  |none=>soft h (exSlice cx.P t h (ρ x) (lo.map ρ) (hi.map ρ) false)
 |.fieldAddr s x f=>soft h (exFieldAddr cx.P s (ρ x) f)
 |.field s x f=>soft h (exField cx.P s (ρ x) f)
 |.indexAddr t x i=>soft h (exIndexAddr cx.P t h (ρ x) (ρ i))
 |.index t x i=>soft h (exIndex cx.P t (ρ x) (ρ i))
 |.makeMap t r=>exMakeMap cx.P t h id0 (r.map ρ)
 |.lookup t x i ok=>soft h (exLookup cx.P t h (ρ x) (ρ i) ok)
 |.mapUpdate t m x b=>(exMapUpdate cx.P t h (ρ m) (ρ x) (ρ b)).map fun h'=>(.any,h',true)
 |.insert t m x b=>(exMapUpdate cx.P t h (ρ m) (ρ x) (ρ b)).map fun h'=>(.any,h',true)
 |.extract x i=>match ρ x with
  |.tup xs=>soft h xs[i]?
  |_=>none
 |.call c=>match c.callee with
  |.value f=>match ρ f with
   |.fn g caps=>exCall cx g (c.args.toList.map ρ++caps) h id0
   |_=>none
  |.builtin b=>exBuiltin cx.P b c.argTypes.toList (c.args.toList.map ρ) T h id0
  |_=>none
 |_=>none
structure St where
 env:Nat->AV
 heap:Heap
 next:Nat
def W:Nat:=1024
def put (env:Nat->AV) (d:Option Nat) (v:AV):Nat->AV:=
 match d with
 |some d=>fun k=>if k=d then v else env k
 |none=>env
def dstOf (ops:Array Oper) (j:Nat):Option Nat:=(ops[j]?).bind (·.dst)
def exOps (cx:Cx) (ops:Array Oper) (base:Nat):List Oper->Nat->(Nat->AV)->Heap->Option ((Nat->AV)×Heap)
 | [],_,env,h=>some (env,h)
 |o::l,k,env,h=>
  let doIt:=fun (env:Nat->AV)=>(exOp cx (evalO env) o.op o.type h (base+k*W)).bind fun (v,h',_)=>exOps cx ops base l (k+1) (put env o.dst v) h'
  match o.guard with
  |none=>doIt env
  |some (j,want)=>match dstOf ops j with
   |none=>none
   |some g=>match env g with
    |.dat .bool b=>match b,want with
     |true,true=>doIt (put env (some g) (.dat .bool true))
     |false,false=>doIt (put env (some g) (.dat .bool false))
     |true,false=>exOps cx ops base l (k+1) (put (put env (some g) (.dat .bool true)) o.dst (.tup [])) h
     |false,true=>exOps cx ops base l (k+1) (put (put env (some g) (.dat .bool false)) o.dst (.tup [])) h
    |.tup []=>exOps cx ops base l (k+1) (put env o.dst (.tup [])) h
    |_=>none
def pureOp (P:Program):Op->Bool
 |.move _=>true
 |.assign _=>true
 |.pick ..=>true
 |.nilCheck _=>true
 |.binOp ..=>true
 |.unOp ..=>true
 |.fieldAddr ..=>true
 |.field ..=>true
 |.index ..=>true
 |.extract ..=>true
 |.build t _=>match P.underlying t with
  |some (.struct _)=>true
  |_=>false
 |.convert s d _=>match P.underlying s,P.underlying d with
  |some (.int _),some (.int _)=>true
  |_,_=>false
 |.slice t _ _ _ _=>match P.underlying t with
  |some .string=>true
  |_=>false
 |_=>false
def exOne (cx:Cx) (ops:Array Oper) (base k:Nat) (o:Oper) (env:Nat->AV) (h:Heap):Res:=
 match o.guard with
 |none=>exOp cx (evalO env) o.op o.type h (base+k*W)
 |some (j,want)=>match dstOf ops j with
  |none=>none
  |some g=>match env g with
   |.dat .bool b=>match b,want with
    |true,true=>exOp cx (evalO env) o.op o.type h (base+k*W)
    |false,false=>exOp cx (evalO env) o.op o.type h (base+k*W)
    |true,false=>some (.tup [],h,false)
    |false,true=>some (.tup [],h,false)
   |.tup []=>some (.tup [],h,false)
   |_=>none
def calmOp (dp pv:Nat->Bool) (base:Nat) (env:Nat->AV):Op->Bool
 |.buildSlice t _ _=>dp (t+litT)
 |.load _ a=>match evalO env a with
  |.ptr id p=>match p.path with
   | []=>decide (id<base)&&!pv id
   |_=>false
  |.fptr _ _=>true
  |_=>false
 |.indexAddr _ x _=>match evalO env x with
  |.dat _ _=>true
  |.fptr _ _=>true
  |_=>false
 |_=>false
def youngOp (pv:Nat->Bool) (base:Nat) (env:Nat->AV):Op->Bool
 |.store _ a _=>match evalO env a with
  |.ptr id p=>match p.path with
   | []=>pv id
   |_=>false
  |_=>false
 |.buildSlice _ _ _=>true
 |.load _ _=>true
 |.call c=>match c.callee with
  |.builtin b=>match b with
   |.append=>true
   |_=>false
  |_=>false
 |_=>false
def markOf (dp pv:Nat->Bool) (base:Nat) (env:Nat->AV) (o:Op):Bool->Bool
 |true=>youngOp pv base env o
 |false=>calmOp dp pv base env o
def skB (ops:Array Oper) (o:Oper) (env:Nat->AV):Bool:=
 match o.guard with
 |none=>false
 |some (j,want)=>match dstOf ops j with
  |none=>false
  |some g=>match env g with
   |.dat .bool b=>match b,want with
    |true,true=>false
    |false,false=>false
    |true,false=>true
    |false,true=>true
   |.tup []=>true
   |_=>false
def storedIn (ops:Array Oper) (env:Nat->AV):List Nat:=ops.toList.filterMap fun o=>match o.op with
 |.store _ (.tmp a) _=>match env a with
  |.ptr id _=>some id
  |_=>none
 |_=>none
def stIn (ops:Array Oper) (env:Nat->AV):Nat->Bool:=fun id=>(storedIn ops env).any fun j=>Nat.beq j id
abbrev Fl:=Bool×Bool×Bool
def bindsTo (o:Oper) (j:Nat):Bool:=o.after.toList.any fun e=>Region.binds .any e&&e.on == j
def bindsIn (ops:Array Oper):Nat->Oper->Nat->Bool
 |0,o,j=>bindsTo o j
 |n+1,o,j=>bindsTo o j||o.after.toList.any fun e=>Region.binds .any e&&(match ops[e.on]? with|some o'=>bindsIn ops n o' j|none=>false)
def hasCall (ops:Array Oper):Bool:=ops.toList.any fun o=>match o.op with
 |.call c=>match c.callee with
  |.value _=>true
  |_=>false
 |_=>false
def preOf (ops:Array Oper) (o:Oper):Bool:=match o.op with
 |.alloc _=>match o.guard with
  |none=>hasCall ops
  |some _=>false
 |_=>false
def preGo (P:Program) (ops:Array Oper) (base:Nat):List Oper->Nat->Heap->Heap
 | [],_,h=>h
 |o::l,k,h=>match preOf ops o with
  |true=>match o.op with
   |.alloc e=>match zeroL P e with
    |some zs=>preGo P ops base l (k+1) (h.set (base+k*W) (.vars zs))
    |none=>preGo P ops base l (k+1) h
   |_=>preGo P ops base l (k+1) h
  |false=>preGo P ops base l (k+1) h
def preH (P:Program) (ops:Array Oper) (base:Nat) (h:Heap):Heap:=preGo P ops base ops.toList 0 h
def keepsId (own:FuncId->List Bool) (env:Nat->AV) (h:Heap) (id:Nat):Op->Bool
 |.store _ a _=>match evalO env a with
  |.ptr id' p=>match p.path with
   | []=>!Nat.beq id' id
   |_=>false
  |_=>false
 |.call c=>match c.callee with
  |.builtin b=>match b with
   |.append=>true
   |_=>false
  |.value f=>match evalO env f with
   |.fn g caps=>match exportAll h (own g) (c.args.toList.map (evalO env)++caps) with
    |some as=>!(reach h 8 (addNew [] (idsL as))).contains id&&!(reach h 8 (addNew [] (idsL (c.args.toList.map (evalO env)++caps)))).any (holeB h)
    |none=>false
   |_=>false
  |_=>false
 |.load _ _=>true
 |.buildSlice _ _ _=>true
 |_=>false
def tchGo (own:FuncId->List Bool) (ops:Array Oper) (base:Nat) (env:Nat->AV) (h:Heap) (o:Oper):List Oper->Nat->Bool
 | [],_=>true
 |x::l,k=>(!preOf ops x||(bindsIn ops 9 o k||keepsId own env h (base+k*W) o.op))&&tchGo own ops base env h o l (k+1)
def tchOK (own:FuncId->List Bool) (ops:Array Oper) (base:Nat) (env:Nat->AV) (h:Heap) (o:Oper):Bool:=tchGo own ops base env h o ops.toList 0
def tchBad (own:FuncId->List Bool) (ops:Array Oper) (base:Nat) (env:Nat->AV) (h:Heap) (o:Oper):Bool->Bool
 |true=>!tchOK own ops base env h o
 |false=>false
def exOpsF (cx:Cx) (pv:Nat->Bool) (ops:Array Oper) (base:Nat):List Oper->Nat->(Nat->AV)->Heap->Option ((Nat->AV)×Heap×List Fl)
 | [],_,env,h=>some (env,h,[])
 |o::l,k,env,h=>match exOne cx ops base k o env h with
  |none=>none
  |some (v,h',hd)=>match tchBad cx.own ops base env h o hd with
   |true=>none
   |false=>match exOpsF cx pv ops base l (k+1) (put env o.dst v) h' with
    |none=>none
    |some (env',h'',fs)=>some (env',h'',(hd,skB ops o env||markOf cx.deep pv base env o.op hd,skB ops o env||markOf cx.deep (fun _=>false) base env o.op hd)::fs)
def waived (fj fk:Fl):Bool:=(fj.1&&!fk.1&&((fj.2.1&&fk.2.1)||(fj.2.2&&fk.2.2)))||(fk.1&&!fj.1&&((fk.2.1&&fj.2.1)||(fk.2.2&&fj.2.2)))
def pairOK (P:Program) (ops:Array Oper) (oj ok:Oper) (j:Nat) (fj fk:Fl):Bool:=
 (match oj.dst with
  |some d=>(ok.dst != some d)&&(!(ok.looksAt ops).contains d||bindsIn ops 9 ok j)
  |none=>true) &&
 (match ok.dst with
  |some d=>!(oj.looksAt ops).contains d||bindsIn ops 9 ok j
  |none=>true) &&
 (!((fj.1&&!(pureOp P ok.op||preOf ops ok))||(fk.1&&!(pureOp P oj.op||preOf ops oj)))||waived fj fk||bindsIn ops 9 ok j)
def aheadOK (P:Program) (ops:Array Oper) (ok:Oper) (fk:Fl):List Oper->List Fl->Nat->Bool
 |oj::l,fj::fs,j=>pairOK P ops oj ok j fj fk&&aheadOK P ops ok fk l fs (j+1)
 |_,_,_=>true
def drawGo (P:Program) (ops:Array Oper) (all:List Oper) (allF:List Fl):List Oper->List Fl->Nat->Bool
 |o::l,f::fs,k=>(o.after.toList.all fun e=>!Region.binds .any e||decide (e.on<k))&&aheadOK P ops o f (all.take k) (allF.take k) 0&&drawGo P ops all allF l fs (k+1)
 |_,_,_=>true
def drawOK (P:Program) (ops:Array Oper) (fs:List Fl):Bool:=
 P.follows .mixedOrders&&drawGo P ops ops.toList fs ops.toList fs 0
def trimH (n:Nat) (h:Heap):Heap:=fun j=>if j<n then h j else none
def assoc (l:List (Nat×AV)):Nat->AV:=fun k=>match l.find? (fun p=>p.1 == k) with|some p=>p.2|none=>.any
def heapOf (l:List (Option Blk)):Heap:=fun j=>match l[j]? with|some o=>o|none=>none
def settle (st:List Nat) (h:Heap):Heap:=
 match (reach h 8 st).any (holeB h) with
 |true=>
  let l:=reach (fun j=>(h j).map stripB) 8 st
  closeIds (l.filter fun id=>!l.contains (holeId h id)) h
 |false=>h
def clean0 (pin:Nat) (keep:List Nat) (s:St):Option St:=
 let vs:=keep.map fun k=>(k,s.env k)
 let live:=reach s.heap 8 (addNew (List.range pin) (vs.flatMap fun p=>idsA p.2))
 if closedB s.heap live then
  let f:=fun id=>(idxOf id live 0).getD 0
  some { env:=assoc (vs.map fun p=>(p.1,renA f p.2)),heap:=heapOf (live.map fun id=>(s.heap id).map (renB f)),next:=live.length }
 else none
def clean (pin:Nat) (keep:List Nat) (s:St):Option St:=
 clean0 pin keep ⟨s.env,settle (addNew (List.range pin) ((keep.map fun k=>(k,s.env k)).flatMap fun p=>idsA p.2)) s.heap,s.next⟩
def labelIn:Code->Option Nat
 |.seq a b=>match labelIn a with|some l=>some l|none=>labelIn b
 |.label l=>some l
 |_=>none
def hasGoto:Code->Bool
 |.seq a b=>hasGoto a||hasGoto b
 |.cond _ a b=>hasGoto a||hasGoto b
 |.block _ a=>hasGoto a
 |.loop a=>hasGoto a
 |.scope a=>hasGoto a
 |.goto _=>true
 |_=>false
def goIn (x:Code):Option (Nat×Code):=match hasGoto x with
 |true=>(labelIn x).bind fun l=>(findLabel x l).map fun r=>(l,r)
 |false=>none
def swapG (l:Nat):Exit->Option Exit
 |.goto l'=>if l'=l then some .normal else none
 |.ret=>some .ret
 |_=>none
def exResult (P:Program) (h:Heap) (env:Nat->AV):List ResultVar->Option (List AV)
 | []=>some []
 |.tmp t::l=>(exResult P h env l).map (env t::·)
 |.cell a t::l=>(exLoad P t h (env a)).bind fun v=>(exResult P h env l).map (v::·)
def argEnv:List AV->Nat->AV
 | [],_=>.any
 |a::_,0=>a
 |_::l,k+1=>argEnv l k
def oneOf:List AV->AV
 | [v]=>v
 |vs=>.tup vs
end
end Go.LM
end
namespace Go.LM
section
def frz (w:World) (a:Addr):Bool:=
 match w.heap[a.block]? with
 |some (.cells _ _ (lo,hi))=>!decide (lo<=hi)||(decide (lo<=a.off)&&decide (a.off<hi))
 |_=>false
theorem frz_false {w:World} {a:Addr} (h:frz w a=false):w.frozen? a=false:=by
 unfold frz at h
 unfold World.frozen?
 split at h
 ·rename_i h1
  rw [h1]
  simp only [Bool.or_eq_false_iff] at h
  exact h.2
 ·rename_i h1
  split
  ·rename_i c e lo hi h2;exact (h1 _ _ _ _ h2).elim
  ·rfl
def cellsAt (w:World) (b:Nat):Option (List Value):=match w.heap[b]? with|some (.cells c _ _)=>some c.toList|_=>none
def At (w:World) (b off n:Nat) (vs:List Value):Prop:=∃ l,cellsAt w b=some l/\off+n<=l.length/\vs=(l.drop off).take n
def rep (F:Nat->Prop) (w:World):(t:Ty)->t.D->List Value->Prop
 |.int k,x,vs=>vs=[.int k (toI k x)]
 |.bool,x,vs=>vs=[.bool x]
 |.str,x,vs=>vs=[.string ⟨x.toArray⟩]
 |.sl e,xs,vs=>∃ (A:Option Addr) (c:Nat),vs=[.slice A (List.length (α:=e.D) xs) c]/\List.length (α:=e.D) xs<=c /\
   (List.length (α:=e.D) xs=0\/∃ b off,A=some ⟨b,off,none⟩/\F b/\∀ i (h:i<List.length (α:=e.D) xs),∃ us,At w b (off+i*e.sz) e.sz us/\rep F w e (List.get (α:=e.D) xs ⟨i,h⟩) us)
 |.un,_,vs=>vs=[]
 |.pr a b,x,vs=>∃ us ws,vs=us++ws/\rep F w a x.1 us/\rep F w b x.2 ws
 |.ar n e,xs,vs=>List.length (α:=e.D) xs=n/\vs.length=n*e.sz /\
   ∀ i (h:i<List.length (α:=e.D) xs),rep F w e (List.get (α:=e.D) xs ⟨i,h⟩) ((vs.drop (i*e.sz)).take e.sz)
inductive Shape where
 |row (t:Ty) (len:Nat)
 |vars (ls:List (Option (Nat×Ty)))
 |mapS (k v:Ty)
structure Conc where
 b:Option Nat
 cap:Nat
 sh:Shape
 a0:Option Addr:=none
def Conc.adr (c:Conc):Option Addr:=match c.b with
 |some b=>some ⟨b,0,none⟩
 |none=>c.a0
theorem Conc.adr_some {c:Conc} {b:Nat} (h:c.b=some b):c.adr=some ⟨b,0,none⟩:=by unfold Conc.adr;rw [h]
def shArr:List (Option (Nat×Ty))->Nat->Option (Nat×Ty)
 | [],_=>none
 |l::ls,off=>if off=0 then l else if lsz l<=off then shArr ls (off - lsz l) else none
def innerAt:Ty->Nat->List (Int×Nat)->Option Nat
 |_,o,[]=>some o
 |t,o,(i,o')::rest=>match tyArr t o with
  |some (n,e)=>if 0<=i/\i<n then (innerAt e o' rest).map fun k=>o+i.toNat*e.sz+k else none
  |none=>none
def arrSh:Shape->Nat->Option (Nat×Ty)
 |.row t len,off=>if off=0 then some (len,t) else none
 |.vars ls,off=>shArr ls off
 |.mapS _ _,_=>none
def placeOf (sh:Shape) (p:Pos):Option Nat:=
 match p.path with
 | []=>some p.off
 |(i,o)::rest=>match arrSh sh p.off with
  |some (n,e)=>if 0<=i/\i<n then (innerAt e o rest).map fun k=>p.off+i.toNat*e.sz+k else none
  |none=>none
def OwnS (F:Nat->Prop) (w:World) (e:Ty) (xs:List e.D) (A:Option Addr) (n c:Nat):Prop:=
 n=xs.length/\n<=c/\(c=0\/∃ b l,A=some ⟨b,0,none⟩/\cellsAt w b=some l/\c*e.sz=l.length/\(∀ i (h:i<xs.length),rep F w e xs[i] ((l.drop (i*e.sz)).take e.sz)) /\
  ∀ o,o<c*e.sz->frz w ⟨b,o,none⟩=false)
def repO (F:Nat->Prop) (w:World) (ho:Option Nat):Nat->(t:Ty)->t.D->List Value->Prop
 |off,.sl e,xs,vs=>∃ (A:Option Addr) (n c:Nat),vs=[.slice A n c]/\(ho≠some off->OwnS F w e xs A n c)
 |off,.pr a b,x,vs=>∃ us ws,vs=us++ws/\repO F w ho off a x.1 us/\repO F w ho (off+a.sz) b x.2 ws
 |_,.int k,x,vs=>rep F w (.int k) x vs
 |_,.bool,x,vs=>rep F w .bool x vs
 |_,.str,x,vs=>rep F w .str x vs
 |_,.un,x,vs=>rep F w .un x vs
 |_,.ar n e,x,vs=>rep F w (.ar n e) x vs
def holeOff (h:Option (Int×Nat×Nat)) (i:Nat):Option Nat:=match h with
 |some (j,o,_)=>if j.toNat=i then some o else none
 |none=>none
def holeCell (e:Ty) (h:Option (Int×Nat×Nat)):Option Nat:=match h with
 |some (j,o,_)=>some (j.toNat*e.sz+o)
 |none=>none
def Inner (w:World) (c:Conc):Option Blk->Nat->Prop
 |some (.deep e xs hole),b'=>∃ b0 l k n cap,c.b=some b0/\cellsAt w b0=some l/\k<xs.length*e.sz/\holeCell e hole≠some k/\l[k]?=some (.slice (some ⟨b',0,none⟩) n cap)/\0<cap
 |_,_=>False
section
variable (F:Nat->Prop) (w:World) (β:Nat->Option Conc)
mutual
inductive RelC:AV->List Value->Prop
 |dat (t x vs):rep F w t x vs->RelC (.dat t x) vs
 |nilS:RelC .nilS [.slice none 0 0]
 |nilP:RelC .nilP [.pointer none]
 |nilF:RelC .nilF [.nilFunc]
 |full (id c t len):β id=some c->c.sh=.row t len->len<=c.cap->RelC (.full id) [.slice c.adr len c.cap]
 |sub (id off) (lo hi:Int) (c) (n:Nat) (t A) (cap:Nat):β id=some c->arrSh c.sh off=some (n,t)->0<=lo->lo<=hi->hi<=n ->
   (hi - lo).toNat<=cap->(lo=hi\/∃ b,c.b=some b/\A=some ⟨b,off+lo.toNat*t.sz,none⟩)->RelC (.sub id off lo hi) [.slice A (hi - lo).toNat cap]
 |ptr (id p c b o):β id=some c->c.b=some b->placeOf c.sh p=some o->RelC (.ptr id p) [.pointer (some ⟨b,o,none⟩)]
 |fptr (t x b o us):F b->At w b o t.sz us->rep F w t x us->RelC (.fptr t x) [.pointer (some ⟨b,o,none⟩)]
 |nz (b t xs A n c):rep F w (.sl t) xs [.slice A n c]->b=A.isNone->RelC (.nz b t xs) [.slice A n c]
 |mpn (t x):RelC (.mp false t x) [.pointer none]
 |mps (t x b o us):F b->At w b o t.sz us->rep F w t x us->RelC (.mp true t x) [.pointer (some ⟨b,o,none⟩)]
 |fn (f caps vs):RelVs caps vs->RelC (.fn f caps) [.func (.func f) #[] vs.toArray]
 |agg (xs vs):RelCs xs vs->RelC (.agg xs) vs
 |mref (id c k v b):β id=some c->c.sh=.mapS k v->c.b=some b->RelC (.mref id) [.map (some b)]
inductive RelCs:List AV->List Value->Prop
 |nil:RelCs [] []
 |cons (a l us vs):RelC a us->us.length=a.csz->RelCs l vs->RelCs (a::l) (us++vs)
inductive RelV:AV->Value->Prop
 |one (a v):isMany a=false->RelC a [v]->RelV a v
 |many (a cs):isMany a=true->RelC a cs->RelV a (.agg cs.toArray)
 |tup (xs vs):RelVs xs vs->RelV (.tup xs) (.tuple vs.toArray)
 |any (v):RelV .any v
inductive RelVs:List AV->List Value->Prop
 |nil:RelVs [] []
 |cons (a l v vs):RelV a v->RelVs l vs->RelVs (a::l) (v::vs)
end
def mapAt (w:World) (b:Nat):Option (List MapEntry×Nat):=match w.heap[b]? with|some (.map es c)=>some (es.toList,c)|_=>none
def EntOK (F:Nat->Prop) (w:World) (k v:Ty) (es:List (k.D×v.D)) (l:List MapEntry):Prop:=
 es.length=l.length/\∀ i (h:i<es.length) (h2:i<l.length),RelV F w (fun _=>none) (.dat k es[i].1) l[i].key/\RelV F w (fun _=>none) (.dat v es[i].2) l[i].val/\l[i].born=i
def BRel (c:Conc):Blk->Prop
 |.row t xs fr=>c.sh=.row t xs.length/\xs.length<=c.cap/\(c.b=none->xs=[]/\c.cap=0) /\
   ∀ b,c.b=some b->(∃ l,cellsAt w b=some l/\c.cap*t.sz=l.length/\∀ i (h:i<xs.length),rep F w t xs[i] ((l.drop (i*t.sz)).take t.sz)) /\
    (fr=true->F b)/\(fr=false->∀ o,o<c.cap*t.sz->frz w ⟨b,o,none⟩=false)
 |.vars cs=>(c.sh=.vars (cs.map leafSh)/\flat cs=true)/\∃ b,c.b=some b/\(∃ l,cellsAt w b=some l/\RelCs F w β cs l)/\∀ o,frz w ⟨b,o,none⟩=false
 |.deep e xs hole=>deepK e=true/\c.sh=.row e xs.length/\xs.length<=c.cap/\(c.b=none->xs=[]/\c.cap=0/\hole=none) /\
   (∀ j o id',hole=some (j,o,id')->0<=j/\j<xs.length/\o<e.sz) /\
   ∀ b,c.b=some b->∃ l,cellsAt w b=some l/\c.cap*e.sz=l.length/\(∀ i (h:i<xs.length),repO F w (holeOff hole i) 0 e xs[i] ((l.drop (i*e.sz)).take e.sz)) /\
    (∀ o,o<c.cap*e.sz->frz w ⟨b,o,none⟩=false) /\
    (∀ j o id',hole=some (j,o,id')->∃ c' t n,β id'=some c'/\c'.sh=.row t n/\l[j.toNat*e.sz+o]?=some (.slice c'.adr n c'.cap)) /\
    (∀ k b' n cap,k<xs.length*e.sz->holeCell e hole≠some k->l[k]?=some (.slice (some ⟨b',0,none⟩) n cap)->0<cap ->
     b'≠b/\∀ k' n' cap',k'<xs.length*e.sz->holeCell e hole≠some k'->l[k']?=some (.slice (some ⟨b',0,none⟩) n' cap')->0<cap'->k'=k)
 |.dead=>True
 |.mapB k v es=>c.sh=.mapS k v/\∃ b,c.b=some b/\∃ l ck,mapAt w b=some (l,ck)/\ck=l.length/\EntOK F w k v es l
end
def ownB:Option Blk->Bool
 |some (.row _ _ fr)=>!fr
 |some (.vars _)=>true
 |some (.deep ..)=>true
 |some (.mapB ..)=>true
 |_=>false
def Owned (w:World) (c:Conc) (ob:Option Blk) (b:Nat):Prop:=ownB ob=true/\(c.b=some b\/Inner w c ob b)
structure Cst where
 G:Nat->Prop
 F0:Nat->Prop
 N0:Nat
 w0:World
 D:List Deferred:=[]
structure Good (X:Cst) (F:Nat->Prop) (w:World) (β:Nat->Option Conc) (H:Heap):Prop where
 hr:∀ id c,β id=some c->∃ blk,H id=some blk/\BRel F w β c blk
 own':∀ id c b,β id=some c->Owned w c (H id) b->¬ F b/\¬ X.G b/\b<w.heap.size
 uniq':∀ id id' c c' b,β id=some c->β id'=some c'->Owned w c (H id) b->Owned w c' (H id') b->id=id'
 fsz:∀ b,F b->b<w.heap.size
 fext:∀ b,F b->X.F0 b\/¬ X.G b
 fmono:∀ b,X.F0 b->F b
 frame:∀ b,X.G b->w.heap[b]?=X.w0.heap[b]?
 gsz:∀ b,X.G b->b<X.N0
 size:X.N0<=w.heap.size
 tame:w.os=X.w0.os/\w.output=X.w0.output
theorem Good.withD {X:Cst} {F:Nat->Prop} {w:World} {β:Nat->Option Conc} {H:Heap} (g:Good X F w β H) (d:List Deferred):Good { X with D:=d } F w β H:=
 ⟨g.hr,g.own',g.uniq',g.fsz,g.fext,g.fmono,g.frame,g.gsz,g.size,g.tame⟩
theorem Good.noD {X:Cst} {d:List Deferred} {F:Nat->Prop} {w:World} {β:Nat->Option Conc} {H:Heap} (g:Good { X with D:=d } F w β H):Good X F w β H:=
 ⟨g.hr,g.own',g.uniq',g.fsz,g.fext,g.fmono,g.frame,g.gsz,g.size,g.tame⟩
theorem Good.own {X F w β H} (g:Good X F w β H):∀ id c b,β id=some c->ownB (H id)=true->c.b=some b->¬ F b/\¬ X.G b/\b<w.heap.size:=
 fun id c b h1 h2 h3=>g.own' id c b h1 ⟨h2,.inl h3⟩
def Touch (w:World) (c:Conc) (ob:Option Blk) (b:Nat):Prop:=c.b=some b\/Inner w c ob b
theorem Inner.congr {w w':World} {c:Conc} {ob:Option Blk} (h:∀ b,c.b=some b->cellsAt w' b=cellsAt w b) {b:Nat} (hi:Inner w' c ob b):Inner w c ob b:=by
 unfold Inner at hi ⊢
 split at hi
 ·obtain ⟨b0,l,k,n,cap,h1,h2,h3⟩:=hi
  exact ⟨b0,l,k,n,cap,h1,(h b0 h1)▸h2,h3⟩
 ·cases hi
theorem Owned.congr {w w':World} {c:Conc} {ob:Option Blk} (h:∀ b,c.b=some b->cellsAt w' b=cellsAt w b) {b:Nat} (hi:Owned w' c ob b):Owned w c ob b:=
 ⟨hi.1,hi.2.imp id fun x=>x.congr h⟩
theorem Inner.deep {w:World} {c:Conc} {ob:Option Blk} {b:Nat} (h:Inner w c ob b):∃ e xs hole,ob=some (.deep e xs hole):=by
 unfold Inner at h
 split at h
 ·exact ⟨_,_,_,rfl⟩
 ·cases h
theorem Inner.ownB {w:World} {c:Conc} {ob:Option Blk} {b:Nat} (h:Inner w c ob b):ownB ob=true:=by
 obtain ⟨e,xs,hole,rfl⟩:=h.deep;rfl
theorem Good.apart {X F w β H} (g:Good X F w β H) {id j:Nat} {c c':Conc} {b:Nat} (hid:β id=some c) (ho:Owned w c (H id) b) (hj:β j=some c') (hne:j≠id) (hd:H j≠some .dead):¬ Touch w c' (H j) b:=by
 rintro (h|h)
 ·cases hown:LM.ownB (H j) with
  |true=>exact hne (g.uniq' j id c' c b hj hid ⟨hown,.inl h⟩ ho)
  |false=>
   obtain ⟨blk,h1,h2⟩:=g.hr j c' hj
   rw [h1] at hown hd
   cases blk with
   |dead=>exact hd rfl
   |vars cs=>cases hown
   |deep e xs hole=>cases hown
   |mapB k v es=>cases hown
   |row t xs fr=>
    have:fr=true:=by simpa [LM.ownB] using hown
    subst this
    exact (g.own' id c b hid ho).1 ((h2.2.2.2 b h).2.1 rfl)
 ·exact hne (g.uniq' j id c' c b hj hid ⟨h.ownB,.inr h⟩ ho)
end
end Go.LM
