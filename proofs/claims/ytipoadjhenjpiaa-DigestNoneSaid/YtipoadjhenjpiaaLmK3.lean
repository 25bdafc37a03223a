/- LM: functions. -/
import Derived.Test.YtipoadjhenjpiaaLmK2
set_option linter.unusedVariables false
set_option linter.unusedSimpArgs false
namespace Go.LM

section
variable {P : Program} {F : Nat → Prop} {w : World} {β : Nat → Option Conc}

theorem argEnv_rel : ∀ {l : List AV} {vs : List Value} {k : Nat}, RelVs F w β l vs → ∀ t, RelV F w β (argEnv l t) ((vs ++ List.replicate k undef).getD t undef)
  | [], _, k, .nil, t => by simp only [argEnv]; exact .any _
  | _, _, k, .cons a l v vs h1 h2, 0 => by simpa [argEnv] using h1
  | _, _, k, .cons a l v vs h1 h2, t + 1 => by
    have := argEnv_rel (k := k) h2 t
    simpa [argEnv] using this

/-- One result. -/
def resultOf (tmps : Array Value) : ResultVar → Sem Value
  | .tmp t => pure (tmps.getD t undef)
  | .cell a t => do loadVar t (← asAddr (tmps.getD a undef))

theorem loadAt_cell {T : TypeId} {H : Heap} {X : Cst} (g : Good X F w β H) {a v : AV} {u : Value} (h : exLoad P T H a = some v) (ha : RelV F w β a u) :
    ∃ r, ((do loadVar T (← asAddr u) : Sem Value)).run P w = .ok r w ∧ RelV F w β v r := by
  obtain ⟨r, h1, h2⟩ := sim_load g h ha
  have : ∃ ad : Addr, u = .pointer (some ad) := by
    unfold exLoad at h
    split at h
    · obtain ⟨b, o, us, e, _⟩ := ha.fptr_inv; exact ⟨_, e⟩
    · obtain ⟨c, b, o, e, _⟩ := ha.ptr_inv; exact ⟨_, e⟩
    · cases h
  obtain ⟨ad, rfl⟩ := this
  refine ⟨r, ?_, h2⟩
  rw [← h1]
  rfl

theorem results_list {H : Heap} {X : Cst} (g : Good X F w β H) {env : Nat → AV} {a : Act} (he : EnvRel F w β env a) : ∀ (l : List ResultVar) (vs : List AV), exResult P H env l = some vs →
    ∃ us, (l.mapM (resultOf a.tmps)).run P w = .ok us w ∧ RelVs F w β vs us
  | [], vs, h => by simp only [exResult] at h; cases h; exact ⟨[], by simp [pure, Sem.run], .nil⟩
  | .tmp t :: l, vs, h => by
    simp only [exResult] at h
    cases hr : exResult P H env l with
    | none => rw [hr] at h; cases h
    | some vs' =>
      rw [hr] at h
      cases h
      obtain ⟨us, h1, h2⟩ := results_list g he l vs' hr
      refine ⟨a.tmps.getD t undef :: us, ?_, .cons _ _ _ _ (he t) h2⟩
      simp only [List.mapM_cons, Sem.run_bind, resultOf, pure, Sem.run, Result.andThen_ok, h1]
  | .cell x t :: l, vs, h => by
    simp only [exResult] at h
    cases hv : exLoad P t H (env x) with
    | none => rw [hv] at h; cases h
    | some v =>
    rw [hv] at h
    simp only [Option.bind_some] at h
    cases hr : exResult P H env l with
    | none => rw [hr] at h; cases h
    | some vs' =>
      rw [hr] at h
      cases h
      obtain ⟨us, h1, h2⟩ := results_list g he l vs' hr
      obtain ⟨r, h3, h4⟩ := loadAt_cell g hv (he x)
      refine ⟨r :: us, ?_, .cons _ _ _ _ h4 h2⟩
      simp only [List.mapM_cons]
      rw [Sem.run_bind, show resultOf a.tmps (.cell x t) = (do loadVar t (← asAddr (a.tmps.getD x undef))) from rfl, h3]
      simp only [Result.andThen_ok, Sem.run_bind, h1, pure, Sem.run]

theorem results_run {fn : Func} {H : Heap} {X : Cst} (g : Good X F w β H) {env : Nat → AV} {a : Act} (he : EnvRel F w β env a) {vs : List AV} (h : exResult P H env fn.results.toList = some vs) :
    ∃ v, (results fn a.tmps).run P w = .ok v w ∧ RelV F w β (oneOf vs) v := by
  obtain ⟨us, h1, h2⟩ := results_list g he _ _ h
  have hm : (fn.results.mapM (resultOf a.tmps)).run P w = .ok us.toArray w := by
    rw [Array.mapM_eq_mapM_toList, Sem.run_map, h1]
    rfl
  have hf : results fn a.tmps = (do let vs ← fn.results.mapM (resultOf a.tmps); pure (if h : vs.size = 1 then vs[0] else .tuple vs) : Sem Value) := by
    unfold results resultOf
    congr 1
  refine ⟨if h : us.toArray.size = 1 then us.toArray[0] else .tuple us.toArray, ?_, ?_⟩
  · rw [hf, Sem.run_bind, hm]
    rfl
  · match vs, us, h2 with
    | [], _, .nil => exact .tup [] [] .nil
    | [v], _, .cons _ _ u _ h3 .nil => exact h3
    | v :: v' :: vs, _, .cons _ _ u _ h3 (.cons _ _ u' us h4 h5) =>
      have : ¬ ((u :: u' :: us).toArray.size = 1) := by simp
      rw [dif_neg this]
      exact .tup _ _ (.cons _ _ _ _ h3 (.cons _ _ _ _ h4 h5))

/-- What is looked up of a program once. -/
def fitF (fn : Func) : Bool := match fn.body with | none => true | some c => !(fn.name == "runtime.NumGoroutine") && dstOK fn.ntmps c
def fitP (P : Program) : Bool := P.funcs.toList.all fitF

theorem exFn_sound {cx : Cx} (hrun : RunSound cx.P cx.run) (hent : RunEnters cx.P cx.run) (hfit : fitP cx.P = true) {f : FuncId} {fn : Func} (hf : cx.P.funcs[f]? = some fn) {n : Nat} {ann : Ann} {args : List AV} {pin : Nat} {h : Heap} {r : AV} {h1 : Heap} {n1 : Nat}
    (he : exFn cx n fn ann args pin h = some (r, h1, n1)) {X : Cst} {β : Nat → Option Conc} {vals : List Value} (g : Good X F w β h) (hp : ∀ j, β j ≠ none → j < pin) (hv : RelVs F w β args vals) :
    Calls cx.P f vals.toArray w fun e w' => ∃ v F' β', e = .returned v ∧ Good X F' w' β' h1 ∧ Ext F w β F' w' β' ∧ (∀ j, j < pin → β' j = β j) ∧ (∀ j, β' j ≠ none → j < n1) ∧ RelV F' w' β' r v := by
  unfold exFn at he
  cases hb : fn.body with
  | none => rw [hb] at he; cases he
  | some c =>
  rw [hb] at he
  simp only at he
  have hfn : fitF fn = true := List.all_eq_true.1 hfit fn (Array.mem_toList_iff.2 (Array.mem_of_getElem? hf))
  unfold fitF at hfn
  rw [hb] at hfn
  simp only [Bool.and_eq_true] at hfn
  cases hx : exCode cx n pin c ann ⟨argEnv args, h, pin⟩ with
  | none => rw [hx] at he; cases he
  | some q =>
  obtain ⟨e, s⟩ := q
  rw [hx] at he
  simp only [Option.bind_some] at he
  have hst : StRel X fn.ntmps pin F w β F w β (argEnv args) h pin { tmps := vals.toArray ++ Array.replicate (fn.ntmps - vals.toArray.size) undef, defers := [] } := by
    refine ⟨g, hp, fun t => ?_, rfl, ?_, fun b hb => ⟨hb, rfl⟩, fun j _ => rfl, Nat.le_refl _⟩
    · have := argEnv_rel (k := fn.ntmps - vals.toArray.size) hv t
      have e : (vals.toArray ++ Array.replicate (fn.ntmps - vals.toArray.size) undef).getD t undef = (vals ++ List.replicate (fn.ntmps - vals.toArray.size) undef).getD t undef := by
        simp [Array.getD_eq_getD_getElem?, List.getD_eq_getElem?_getD, ← Array.getElem?_toList]
      rw [e]; exact this
    · simp; omega
  refine calls_of_wp hf hb (wp_mono (code_sound hrun hent n c ann _ e s hx hfn.2 _ w ⟨F, β, hst⟩) fun e' a' w' hp' => ?_)
  obtain ⟨rfl, F', β', r'⟩ := hp'
  have fin : ((exResult cx.P s.heap s.env fn.results.toList).bind fun vs =>
      (clean pin [0] ⟨assoc [(0, oneOf vs)], s.heap, s.next⟩).map fun s' => (s'.env 0, s'.heap, s'.next)) = some (r, h1, n1) →
      a'.defers = [] ∧ ∃ v, (results fn a'.tmps).run cx.P w' = .ok v w' ∧ ∃ v' F' β', Ending.returned v = .returned v' ∧ Good X F' w' β' h1 ∧ Ext F w β F' w' β' ∧ (∀ j, j < pin → β' j = β j) ∧ (∀ j, β' j ≠ none → j < n1) ∧ RelV F' w' β' r v' := by
    intro he
    refine ⟨r'.defers, ?_⟩
    cases hr : exResult cx.P s.heap s.env fn.results.toList with
    | none => rw [hr] at he; cases he
    | some vs =>
    rw [hr] at he
    simp only [Option.bind_some] at he
    obtain ⟨v, hv1, hv2⟩ := results_run r'.good r'.env hr
    generalize oneOf vs = vv at he hv2
    cases hcl : clean pin [0] ⟨assoc [(0, vv)], s.heap, s.next⟩ with
    | none => rw [hcl] at he; cases he
    | some s' =>
    rw [hcl] at he
    cases he
    let a2 : Act := { tmps := Array.replicate (fn.ntmps + 1) v, defers := [] }
    have hst2 : StRel X fn.ntmps pin F w β F' w' β' (assoc [(0, vv)]) s.heap s.next a2 := by
      refine ⟨r'.good, r'.dom, fun t => ?_, rfl, by simp [a2], r'.ext, r'.pins, r'.pinle⟩
      rcases find_assoc _ t _ rfl with e | hm
      · rw [e]; exact .any _
      · simp only [List.mem_singleton, Prod.mk.injEq] at hm
        obtain ⟨rfl, e⟩ := hm
        rw [e]
        have : a2.tmps.getD 0 undef = v := by simp [a2]
        rw [this]; exact hv2
    obtain ⟨β3, r3⟩ := clean_rel hst2 hcl
    refine ⟨v, hv1, v, F', β3, rfl, r3.good, ⟨r3.ext, fun id c hc => ?_⟩, r3.pins, r3.dom, ?_⟩
    · rw [r3.pins id (hp id (by rw [hc]; intro e; cases e))]; exact hc
    · have := r3.env 0
      have e : a2.tmps.getD 0 undef = v := by simp [a2]
      rw [e] at this; exact this
  cases e' with
  | normal => exact fin he
  | ret => exact fin he
  | _ => cases he

theorem exRun_sound {P : Program} (hfit : fitP P = true) (own : FuncId → List Bool) (ann : FuncId → Ann) : ∀ n, RunSound P (exRun P own ann n) ∧ RunEnters P (exRun P own ann n)
  | 0 => by
    refine ⟨fun f args pin h r h1 n1 he => ?_, fun f args pin h r he => ?_⟩
    · cases he
    · cases he
  | n + 1 => by
    obtain ⟨ih1, ih2⟩ := exRun_sound hfit own ann n
    refine ⟨fun f args pin h r h1 n1 he X F w β vals g hp hv => ?_, fun f args pin h r he => ?_⟩
    · simp only [exRun] at he
      cases hf : P.funcs[f]? with
      | none => rw [hf] at he; cases he
      | some fn =>
        rw [hf] at he
        simp only at he
        split at he
        · exact exFn_sound (cx := ⟨P, exRun P own ann n, own⟩) ih1 ih2 hfit hf he g hp hv
        · cases he
    · simp only [exRun] at he
      cases hf : P.funcs[f]? with
      | none => rw [hf] at he; cases he
      | some fn =>
        rw [hf] at he
        simp only at he
        split at he
        · unfold exFn at he
          cases hb : fn.body with
          | none => rw [hb] at he; cases he
          | some c =>
            have hfn : fitF fn = true := List.all_eq_true.1 hfit fn (Array.mem_toList_iff.2 (Array.mem_of_getElem? hf))
            unfold fitF at hfn
            rw [hb] at hfn
            simp only [Bool.and_eq_true] at hfn
            exact ⟨fn, rfl, by rw [hb]; rfl, by simpa using hfn.1⟩
        · cases he
end
#print axioms exRun_sound
end Go.LM
