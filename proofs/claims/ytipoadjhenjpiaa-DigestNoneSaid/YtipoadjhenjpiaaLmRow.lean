/- LM: a law that gives true, as a row. -/
import Derived.Test.YtipoadjhenjpiaaLmK3
import Derived.ProofKit
set_option linter.unusedVariables false
set_option linter.unusedSimpArgs false
namespace Go.LM
open Go.ChangeShapes Go.WideShapes Go.ChangeAt Go.RowKit

/-- What a law leaves: an old world, grown. -/
def Old (W W' : World) : Prop := (W'.os = W.os ∧ W'.output = W.output) ∧ ∀ b, b < W.heap.size → W'.heap[b]? = W.heap[b]?

def noB : Nat → Option Conc := fun _ => none
def noH : Heap := fun _ => none

theorem law_calls {P : Program} (hfit : fitP P = true) {own : FuncId → List Bool} {ann : FuncId → Ann} {n : Nat} {f : FuncId} {args : List AV} (hex : (exRun P own ann n f args 0 noH).map (fun r => r.1) = some (.dat .bool true))
    {W : World} {vals : List Value} (hv : RelVs (fun b => b < W.heap.size) W noB args vals) :
    Calls P f vals.toArray W fun e W' => e = .returned (.bool true) ∧ Old W W' := by
  cases hr : exRun P own ann n f args 0 noH with
  | none => rw [hr] at hex; cases hex
  | some q =>
    obtain ⟨r, h1, n1⟩ := q
    rw [hr] at hex
    simp only [Option.map_some, Option.some.injEq] at hex
    subst hex
    let X : Cst := ⟨fun b => b < W.heap.size, fun b => b < W.heap.size, W.heap.size, W⟩
    have g : Good X (fun b => b < W.heap.size) W noB noH :=
      ⟨fun id c h => (by cases h), fun id c b h => (by cases h), fun id id' c c' b h => (by cases h), fun b h => h, fun b h => .inl h, fun b h => h, fun b _ => rfl, fun b h => h, Nat.le_refl _, ⟨rfl, rfl⟩⟩
    refine ((exRun_sound hfit own ann n).1 f args 0 noH _ h1 n1 hr X _ W noB vals g (fun j hj => absurd rfl hj) hv).mono fun e W' h => ?_
    obtain ⟨v, F', β', rfl, g', _, _, _, rv⟩ := h
    rw [rv.bool_inv]
    exact ⟨rfl, g'.tame, fun b hb => g'.frame b hb⟩

section
variable {H : Type} {enc : TypeId × Value → H} {P : Program}

theorem trodAll_stays {W W' : World} {sp : Nat → Bool} (hl : laidOutB P = true) : ∀ {ts : List TypeId} {vs : List Value} {ds : List (DataW H)} {ps : List MemPlace}, DataW.TrodAll enc P W 0 (fun _ => true) true ts vs ds ps →
    (ts.all fun t => P.readableRec t && decide (t < P.types.size)) = true → (∀ p ∈ ps, W.sameAt W' p) → (∀ p ∈ ps, sp p.block = true) → DataW.TrodAll enc P W' 0 sp true ts vs ds ps
  | [], [], [], ps, h, _, _, _ => h
  | t :: ts, v :: vs, d :: ds, ps, h, ht, hs, hp => by
    obtain ⟨p, q, h1, h2, rfl⟩ := h
    simp only [List.all_cons, Bool.and_eq_true, decide_eq_true_eq] at ht
    exact ⟨p, q, WideElems.Trod_stays hl ht.1.1 ht.1.2 h1 (fun x hx => hs x (List.mem_append_left _ hx)) (fun x hx => hp x (List.mem_append_left _ hx)),
      trodAll_stays hl h2 (by simpa using ht.2) (fun x hx => hs x (List.mem_append_right _ hx)) (fun x hx => hp x (List.mem_append_right _ hx)), rfl⟩
  | [], _ :: _, _, _, h, _, _, _ => h.elim
  | [], [], _ :: _, _, h, _, _, _ => h.elim
  | _ :: _, [], _, _, h, _, _, _ => h.elim
  | _ :: _, _ :: _, [], _, h, _, _, _ => h.elim

theorem law_post {fn : Func} {s : ChangeSpec} {apart fresh handsOn again : Bool} {W W' : World} {args : Array Value} {ds gs : List (DataW H)} {before : List MemPlace} {T : TypeId}
    (hl : laidOutB P = true) (hr : (fn.params.toList.all fun t => P.readableRec t && decide (t < P.types.size)) = true) (hT : fn.resultTypes = #[T]) (hb : P.underlying T = some .bool) (hvars : s.vars = [])
    (hW : DataW.Whole enc P fn.params.toList s.vars apart W args.toList ds gs before) (h1 : (s.fn H (ds ++ gs)).results = [.lit (.bool true)]) (h2 : (s.fn H (ds ++ gs)).args = ds) (h3 : (s.fn H (ds ++ gs)).vars = [])
    (ho : Old W W') : s.post enc P fn apart fresh handsOn again W args (.bool true) W' := by
  have hlt := hW.lt
  have hW' := hW
  obtain ⟨p, q, hA, hV, rfl, hz, hn⟩ := hW'
  rw [hvars] at hV
  obtain ⟨rfl, rfl⟩ := trodVars_none hV
  simp only [List.append_nil] at hz hn hlt h1 h2 h3
  have hsame : ∀ x ∈ p, W.sameAt W' x := fun x hx => by
    have hb := ho.2 x.block (hlt x hx)
    cases x with
    | cell b o => exact World.cell?_of_block (w := W) hb
    | map b => exact hb
  have hres : ∀ (b : Nat) (sp : Nat → Bool) (hd : Bool), DataW.TrodAll enc P W' b sp hd fn.resultTypes.toList ((Value.bool true).resultList fn.resultTypes.size) [.lit (.bool true)] [] := fun b sp hd => by
    rw [hT]
    exact trodAll_mk1 ⟨1, by simp [DataW.trod, Value.cells, hb]⟩
  have hargs : ∀ sp : Nat → Bool, (∀ x ∈ p, sp x.block = true) → DataW.TrodAll enc P W' 0 sp true fn.params.toList args.toList ds p := fun sp hsp => trodAll_stays hl hA hr hsame hsp
  have hold : ∀ x ∈ p, (fun b => decide (b < W.heap.size)) x.block = true := fun x hx => by simpa using hlt x hx
  refine ⟨ds, [], p ++ [], [], p, [], hW, ?_, ?_, ?_, ?_, fun _ => ⟨?_, [.lit (.bool true)] ++ ds, [], ([] ++ p) ++ [], ⟨[] ++ p, [], ?_, ?_, rfl, ?_, ?_⟩, ?_⟩⟩
  · simp only [List.append_nil]; rw [h1]; exact hres _ _ _
  · simp only [List.append_nil]; rw [h2]; exact hargs _ hold
  · simp only [List.append_nil]; rw [h3, hvars]; rfl
  · refine ⟨ho.1.1, ho.1.2, fun i hi => ?_⟩
    rw [ho.2 i hi]
    split <;> simp_all
  · intro j t r hj hrr
    rw [hT] at hj hrr
    cases j with
    | zero =>
      simp [Value.resultList] at hj hrr
      subst hj; subst hrr
      simp [Value.okWide, hb, Cell.okWide, Cell.ok]
    | succ j => simp at hj
  · exact trodAll_append (hargs _ (fun _ _ => rfl)) (hres _ _ _)
  · rw [hvars]; rfl
  · intro b off hp
    simp only [List.nil_append, List.append_nil] at hp
    rw [World.frozen?_of_block (w := W) (a := ⟨b, off, none⟩) (ho.2 b (hlt _ hp))]
    exact hz b off hp
  · intro ha
    simpa using hn ha
  · intro x hx _
    simpa using hx
end
end Go.LM
