/- LM: what an abstract state says of a world. -/
import Derived.Test.YtipoadjhenjpiaaLmEx
set_option linter.unusedVariables false
namespace Go.LM

/-- A block's cells. -/
def cellsAt (w : World) (b : Nat) : Option (List Value) := match w.heap[b]? with | some (.cells c _ _) => some c.toList | _ => none
def typAt (w : World) (b : Nat) : Option TypeId := match w.heap[b]? with | some (.cells _ T _) => some T | _ => none
def frzAt (w : World) (b : Nat) : Nat × Nat := match w.heap[b]? with | some (.cells _ _ f) => f | _ => (0, 0)

/-- The n cells from 'off' on are these. -/
def At (w : World) (b off n : Nat) (vs : List Value) : Prop := ∃ l, cellsAt w b = some l ∧ off + n ≤ l.length ∧ vs = (l.drop off).take n

/-- 'vs' are the cells of x; slices lie in blocks of F. -/
def rep (F : Nat → Prop) (w : World) : (t : Ty) → t.D → List Value → Prop
  | .int k, x, vs => vs = [.int k (toI k x)]
  | .bool, x, vs => vs = [.bool x]
  | .str, x, vs => vs = [.string ⟨x.toArray⟩]
  | .sl e, xs, vs => ∃ (A : Option Addr) (c : Nat), vs = [.slice A (List.length (α := e.D) xs) c] ∧ List.length (α := e.D) xs ≤ c ∧
      (List.length (α := e.D) xs = 0 ∨ ∃ b off, A = some ⟨b, off, none⟩ ∧ F b ∧ ∀ i (h : i < List.length (α := e.D) xs), ∃ us, At w b (off + i * e.sz) e.sz us ∧ rep F w e (List.get (α := e.D) xs ⟨i, h⟩) us)
  | .un, _, vs => vs = []
  | .pr a b, x, vs => ∃ us ws, vs = us ++ ws ∧ rep F w a x.1 us ∧ rep F w b x.2 ws
  | .ar n e, xs, vs => List.length (α := e.D) xs = n ∧ vs.length = n * e.sz ∧
      ∀ i (h : i < List.length (α := e.D) xs), rep F w e (List.get (α := e.D) xs ⟨i, h⟩) ((vs.drop (i * e.sz)).take e.sz)

/-- What a block is, beside what it holds. -/
inductive Shape where
  | row (t : Ty) (len : Nat)
  | vars (ls : List (Option (Nat × Ty)))
structure Conc where
  b : Option Nat
  cap : Nat
  sh : Shape

/-- The array at a cell of such leaves. -/
def shArr : List (Option (Nat × Ty)) → Nat → Option (Nat × Ty)
  | [], _ => none
  | l :: ls, off => if off = 0 then l else if lsz l ≤ off then shArr ls (off - lsz l) else none

/-- The cell at which a place lies. -/
def innerAt : Ty → Nat → List (Int × Nat) → Option Nat
  | _, o, [] => some o
  | t, o, (i, o') :: rest => match tyArr t o with
    | some (n, e) => if 0 ≤ i ∧ i < n then (innerAt e o' rest).map fun k => o + i.toNat * e.sz + k else none
    | none => none
def arrSh : Shape → Nat → Option (Nat × Ty)
  | .row t len, off => if off = 0 then some (len, t) else none
  | .vars ls, off => shArr ls off
def placeOf (sh : Shape) (p : Pos) : Option Nat :=
  match p.path with
  | [] => some p.off
  | (i, o) :: rest => match arrSh sh p.off with
    | some (n, e) => if 0 ≤ i ∧ i < n then (innerAt e o rest).map fun k => p.off + i.toNat * e.sz + k else none
    | none => none

section
variable (F : Nat → Prop) (w : World) (β : Nat → Option Conc)

mutual
/-- The cells of an abstract value. -/
inductive RelC : AV → List Value → Prop
  | dat (t x vs) : rep F w t x vs → RelC (.dat t x) vs
  | nilS : RelC .nilS [.slice none 0 0]
  | nilP : RelC .nilP [.pointer none]
  | nilF : RelC .nilF [.nilFunc]
  | full (id c t len) : β id = some c → c.sh = .row t len → len ≤ c.cap → RelC (.full id) [.slice (c.b.map fun b => ⟨b, 0, none⟩) len c.cap]
  | sub (id off) (lo hi : Int) (c) (n : Nat) (t A) (cap : Nat) : β id = some c → arrSh c.sh off = some (n, t) → 0 ≤ lo → lo ≤ hi → hi ≤ n →
      (hi - lo).toNat ≤ cap → (lo = hi ∨ ∃ b, c.b = some b ∧ A = some ⟨b, off + lo.toNat * t.sz, none⟩) → RelC (.sub id off lo hi) [.slice A (hi - lo).toNat cap]
  | ptr (id p c b o) : β id = some c → c.b = some b → placeOf c.sh p = some o → RelC (.ptr id p) [.pointer (some ⟨b, o, none⟩)]
  | fptr (t x b o us) : F b → At w b o t.sz us → rep F w t x us → RelC (.fptr t x) [.pointer (some ⟨b, o, none⟩)]
  | fn (f caps vs) : RelVs caps vs → RelC (.fn f caps) [.func (.func f) #[] vs.toArray]
  | agg (xs vs) : RelCs xs vs → RelC (.agg xs) vs
/-- Leaves, one behind the other. -/
inductive RelCs : List AV → List Value → Prop
  | nil : RelCs [] []
  | cons (a l us vs) : RelC a us → us.length = a.csz → RelCs l vs → RelCs (a :: l) (us ++ vs)
inductive RelV : AV → Value → Prop
  | one (a v) : isMany a = false → RelC a [v] → RelV a v
  | many (a cs) : isMany a = true → RelC a cs → RelV a (.agg cs.toArray)
  | tup (xs vs) : RelVs xs vs → RelV (.tup xs) (.tuple vs.toArray)
  | any (v) : RelV .any v
inductive RelVs : List AV → List Value → Prop
  | nil : RelVs [] []
  | cons (a l v vs) : RelV a v → RelVs l vs → RelVs (a :: l) (v :: vs)
end

/-- What a block's cells are. -/
def BRel (c : Conc) : Blk → Prop
  | .row t xs fr => c.sh = .row t xs.length ∧ xs.length ≤ c.cap ∧ (c.b = none → xs = [] ∧ c.cap = 0) ∧
      ∀ b, c.b = some b → (∃ l, cellsAt w b = some l ∧ c.cap * t.sz = l.length ∧ ∀ i (h : i < xs.length), rep F w t xs[i] ((l.drop (i * t.sz)).take t.sz)) ∧
        (fr = true → F b) ∧ (fr = false → ∀ o, o < c.cap * t.sz → w.frozen? ⟨b, o, none⟩ = false)
  | .vars cs => (c.sh = .vars (cs.map leafSh) ∧ flat cs = true) ∧ ∃ b, c.b = some b ∧ (∃ l, cellsAt w b = some l ∧ RelCs F w β cs l) ∧ ∀ o, w.frozen? ⟨b, o, none⟩ = false
  | .dead => True
end

def ownB : Option Blk → Bool
  | some (.row _ _ fr) => !fr
  | some (.vars _) => true
  | _ => false

structure Cst where
  G : Nat → Prop
  F0 : Nat → Prop
  N0 : Nat
  w0 : World

structure Good (X : Cst) (F : Nat → Prop) (w : World) (β : Nat → Option Conc) (H : Heap) : Prop where
  hr : ∀ id c, β id = some c → ∃ blk, H id = some blk ∧ BRel F w β c blk
  own : ∀ id c b, β id = some c → ownB (H id) = true → c.b = some b → ¬ F b ∧ ¬ X.G b ∧ b < w.heap.size
  uniq : ∀ id id' c c' b, β id = some c → β id' = some c' → ownB (H id) = true → ownB (H id') = true → c.b = some b → c'.b = some b → id = id'
  fsz : ∀ b, F b → b < w.heap.size
  fext : ∀ b, F b → X.F0 b ∨ ¬ X.G b
  fmono : ∀ b, X.F0 b → F b
  frame : ∀ b, X.G b → w.heap[b]? = X.w0.heap[b]?
  gsz : ∀ b, X.G b → b < X.N0
  size : X.N0 ≤ w.heap.size
  tame : w.os = X.w0.os ∧ w.output = X.w0.output

end Go.LM
