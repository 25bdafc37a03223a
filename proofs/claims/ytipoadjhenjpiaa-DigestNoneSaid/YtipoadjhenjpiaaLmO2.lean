/- LM: every operation. -/
import Derived.Test.YtipoadjhenjpiaaLmO1
set_option linter.unusedVariables false
set_option linter.unusedSimpArgs false
namespace Go.LM

/-- A way of running functions runs functions that are entered. -/
def RunEnters (P : Program) (run : Run) : Prop :=
  ∀ f args pin h r, run f args pin h = some r → ∃ fn, P.funcs[f]? = some fn ∧ fn.body.isNone = false ∧ (fn.name == "runtime.NumGoroutine") = false

theorem enter_run {P : Program} {f : FuncId} {fn : Func} {w : World} (hf : P.funcs[f]? = some fn) (hb : fn.body.isNone = false) (hn : (fn.name == "runtime.NumGoroutine") = false) (args : Array Value) :
    (callFunc f args).run P w = .ok (.enter f args) w := by
  have hn' : ¬ fn.name = "runtime.NumGoroutine" := by simpa using hn
  have hb' : ¬ fn.body = none := by
    intro e; rw [e] at hb; simp at hb
  simp [callFunc, go_sem, hf, hn', hb']

theorem exCall_run {cx : Cx} {f : FuncId} {args : List AV} {H : Heap} {id0 : Nat} {r} (h : exCall cx f args H id0 = some r) :
    ∃ as pin h' r', cx.run f as pin h' = some r' := by
  unfold exCall at h
  cases has : exportAll H (cx.own f) args with
  | none => rw [has] at h; cases h
  | some as =>
  rw [has] at h
  simp only [Option.bind_some] at h
  split at h
  · cases hr : cx.run f (renL (fun id => (idxOf id (reach H 8 (addNew [] (idsL as))) 0).getD 0) as) (reach H 8 (addNew [] (idsL as))).length (subH H (reach H 8 (addNew [] (idsL as))) fun id => (idxOf id (reach H 8 (addNew [] (idsL as))) 0).getD 0) with
    | none => rw [hr] at h; cases h
    | some q => exact ⟨_, _, _, _, hr⟩
  · cases h

section
variable {cx : Cx} {X : Cst} {F : Nat → Prop} {w : World} {β : Nat → Option Conc} {H : Heap}

/-- What a sound step of an operation is. -/
def OpFine (cx : Cx) (X : Cst) (F : Nat → Prop) (w : World) (β : Nat → Option Conc) (H' : Heap) (id0 : Nat) (v : AV) (o : Oper) (σ : Operand → Value) : Prop :=
  ∀ (a : Act) (next : Act → World → Prop) (Q : Exit → Act → World → Prop), (∀ r w', LeftW X F w β H' id0 v r w' → next (a.put o.dst r) w') → o.upon cx.P a next Q ((execOp σ o).run cx.P w)

theorem fine_val {H' id0 v} {o : Oper} {σ : Operand → Value} {s : Sem Value} (he : execOp σ o = (do pure (Next.value (← s)) : Sem Next)) (h : ∃ r w', s.run cx.P w = .ok r w' ∧ LeftW X F w β H' id0 v r w') : OpFine cx X F w β H' id0 v o σ := by
  intro a next Q hn
  obtain ⟨r, w', h1, h2⟩ := h
  rw [he, run_v h1]
  exact hn r w' h2

theorem fine_soft {id0 v} {o : Oper} {σ : Operand → Value} (g : Good X F w β H) {s : Sem Value} (he : execOp σ o = (do pure (Next.value (← s)) : Sem Next)) (h : ∃ r, s.run cx.P w = .ok r w ∧ RelV F w β v r) : OpFine cx X F w β H id0 v o σ :=
  fine_val he (let ⟨r, h1, h2⟩ := h; ⟨r, w, h1, .same g h2⟩)

theorem fine_pure {id0 v} {o : Oper} {σ : Operand → Value} {r : Value} (g : Good X F w β H) (he : execOp σ o = pure (Next.value r)) (h : RelV F w β v r) : OpFine cx X F w β H id0 v o σ := by
  intro a next Q hn
  rw [he]
  exact hn r w (.same g h)

theorem soft_some {h : Heap} {a : Option AV} {v H' hd} (e : soft h a = some (v, H', hd)) : a = some v ∧ H' = h := by
  unfold soft at e
  cases a with
  | none => cases e
  | some x => cases e; exact ⟨rfl, rfl⟩

theorem optRel {ρ : Operand → AV} {σ : Operand → Value} (hρ : ∀ x, RelV F w β (ρ x) (σ x)) (o : Option Operand) :
    (∀ x, o.map ρ = some x → ∃ y, o.map σ = some y ∧ RelV F w β x y) ∧ (o.map ρ = none → o.map σ = none) := by
  cases o with
  | none => exact ⟨fun x e => (by cases e), fun _ => rfl⟩
  | some y => exact ⟨fun x e => ⟨σ y, rfl, by cases e; exact hρ y⟩, fun e => (by cases e)⟩

theorem made_wide {H' id0 a r w'} (h : Made X F w β H' id0 a r w') : LeftW X F w β H' id0 a r w' := (Made.left h).wide

theorem fresh0 {id0 : Nat} (fresh : ∀ j, id0 ≤ j → j < id0 + W → β j = none) : β id0 = none := fresh id0 (Nat.le_refl _) (by unfold W; omega)

theorem sim_op {o : Op} {T : TypeId} {d p af gd} (hrun : RunSound cx.P cx.run) (hent : RunEnters cx.P cx.run) (g : Good X F w β H) {id0 : Nat} (fresh : ∀ j, id0 ≤ j → j < id0 + W → β j = none) {ρ : Operand → AV} {σ : Operand → Value} (hρ : ∀ x, RelV F w β (ρ x) (σ x))
    {v : AV} {H' : Heap} {hd : Bool} (h : exOp cx ρ o T H id0 = some (v, H', hd)) : OpFine cx X F w β H' id0 v ⟨d, o, T, p, af, gd⟩ σ := by
  have hid := fresh0 fresh
  cases o <;> simp only [exOp] at h
  case move x => cases h; exact fine_pure g rfl (hρ x)
  case assign x => cases h; exact fine_pure g rfl (hρ x)
  case pick c a b =>
    split at h
    · rename_i hc
      cases h
      have e := (hc ▸ hρ c : RelV F w β _ (σ c)).bool_inv
      refine fine_pure (r := σ a) g ?_ (hρ a)
      simp [execOp, e, asBool]
    · rename_i hc
      cases h
      have e := (hc ▸ hρ c : RelV F w β _ (σ c)).bool_inv
      refine fine_pure (r := σ b) g ?_ (hρ b)
      simp [execOp, e, asBool]
    · cases h
  case alloc e =>
    cases hz : zeroL cx.P e with
    | none => rw [hz] at h; cases h
    | some l =>
      rw [hz] at h
      simp only [Option.bind_some] at h
      split at h
      · rename_i hf
        cases h
        exact fine_val rfl (let ⟨r, w', h1, h2⟩ := sim_alloc g hid hz hf (.tuple #[]); ⟨r, w', h1, made_wide h2⟩)
      · cases h
  case box e x =>
    split at h
    · rename_i hc
      cases h
      exact fine_val rfl (let ⟨r, w', h1, h2⟩ := sim_box g hid (hρ x) (isVal_of_cells hc.1 hc.2.1) hc.2.2; ⟨r, w', h1, made_wide h2⟩)
    · cases h
  case build t ps =>
    obtain ⟨h1, rfl⟩ := soft_some h
    exact fine_soft g rfl (sim_build g h1 (by rw [Array.toList_map]; exact relParts_map hρ ps.toList))
  case buildSlice t n ps =>
    cases hT : elemTy cx.P t with
    | none => rw [hT] at h; cases h
    | some q =>
    obtain ⟨e, u⟩ := q
    rw [hT] at h
    simp only [Option.bind_some] at h
    cases hz : zeroD cx.P e u with
    | none => rw [hz] at h; cases h
    | some z =>
    rw [hz] at h
    simp only [Option.bind_some] at h
    split at h
    · cases h
    · rename_i hc
      cases hx : setElems (freezeL (ps.toList.flatMap fun p => (ρ p.2).leaves) H) u (ps.toList.map fun p => (p.1, ρ p.2)) (List.replicate n z) with
      | none => rw [hx] at h; cases h
      | some xs =>
        rw [hx] at h
        cases h
        have hc1 : ¬ (2 ^ 24 < n * u.sz) := fun e => hc (.inl e)
        have hc2 : n * u.sz ≠ 0 := fun e => hc (.inr (.inl e))
        have hc3 : ¬ ((ps.toList.any fun p => decide (n ≤ p.1)) = true) := fun e => hc (.inr (.inr e))
        refine fine_val rfl ?_
        obtain ⟨r, w', h1, h2⟩ := sim_buildSlice (P := cx.P) g hid hT hz hc1 hc2 (ps := ps.toList.map fun p => (p.1, ρ p.2)) (qs := ps.map fun p => (p.1, σ p.2)) (by rw [Array.toList_map]; exact relParts_map hρ ps.toList)
          (fun p hp => by
            obtain ⟨q, hq, rfl⟩ := List.mem_map.1 hp
            have := hc3
            simp only [List.any_eq_true, decide_eq_true_eq, not_exists, not_and] at this
            have := this q hq
            show q.1 < n
            omega)
          (ls := ps.toList.flatMap fun p => (ρ p.2).leaves)
          (fun p hp a ha => by
            obtain ⟨q, hq, rfl⟩ := List.mem_map.1 hp
            exact List.mem_flatMap.2 ⟨q, hq, ha⟩) hx
        exact ⟨r, w', h1, h2.wide⟩
  case load t a =>
    obtain ⟨h1, rfl⟩ := soft_some h
    exact fine_soft g rfl (sim_load g h1 (hρ a))
  case store t b x =>
    cases hs : exStore cx.P t H (ρ b) (ρ x) with
    | none => rw [hs] at h; cases h
    | some h' =>
      rw [hs] at h
      cases h
      obtain ⟨w', h1, h2, h3⟩ := sim_store g hs (hρ b) (hρ x)
      intro a next Q hn
      have he : execOp σ ⟨d, .store t b x, T, p, af, gd⟩ = (do Instr.storeAt t (σ b) (σ x); pure Next.skip : Sem Next) := rfl
      rw [he, run_u h1]
      exact hn undef w' ⟨F, β, h2, h3, .any _, fun j hj => .inl hj⟩
  case nilCheck x =>
    have hx := hρ x
    split at h
    · rename_i id p hc
      cases h
      rw [hc] at hx
      obtain ⟨c, b, o, e, _⟩ := hx.ptr_inv
      exact fine_pure (r := σ x) g (by simp [execOp, e]) hx
    · rename_i t y hc
      cases h
      rw [hc] at hx
      obtain ⟨b, o, us, e, _⟩ := hx.fptr_inv
      exact fine_pure (r := σ x) g (by simp [execOp, e]) hx
    · rename_i f cs hc
      cases h
      rw [hc] at hx
      obtain ⟨vs, e, _⟩ := hx.fn_inv
      exact fine_pure (r := σ x) g (by simp [execOp, e]) hx
    · cases h
  case binOp op t x y u =>
    obtain ⟨h1, rfl⟩ := soft_some h
    exact fine_soft g rfl (sim_bin h1 (hρ x) (hρ y))
  case unOp op t x =>
    obtain ⟨h1, rfl⟩ := soft_some h
    exact fine_soft g rfl (sim_un h1 (hρ x))
  case convert s t x =>
    exact fine_val rfl (let ⟨r, w', h1, h2⟩ := sim_convert g hid h (hρ x); ⟨r, w', h1, h2.wide⟩)
  case makeFunc fn first caps =>
    cases fn with
    | func f =>
      simp only at h
      split at h
      · rename_i h0
        cases h
        have h0' : first = #[] := by simpa using h0
        subst h0'
        refine fine_soft (s := Instr.makeFunc (.func f) #[] (caps.map σ)) g (by simp [execOp]) ⟨.func (.func f) #[] (caps.map σ), rfl, ?_⟩
        have e3 : caps.map σ = (caps.toList.map σ).toArray := by rw [← Array.toList_map]
        rw [e3]
        exact RelV.one _ _ rfl (RelC.fn f _ _ (relVs_map hρ caps.toList))
      · cases h
    | _ => cases h
  case makeSlice t l c =>
    have hl := hρ l
    have hc := hρ c
    split at h
    · rename_i i x j y e1 e2
      rw [e1] at hl
      rw [e2] at hc
      cases hT : elemTy cx.P t with
      | none => rw [hT] at h; cases h
      | some q =>
      obtain ⟨e, u⟩ := q
      rw [hT] at h
      simp only [Option.bind_some] at h
      cases hz : zeroD cx.P e u with
      | none => rw [hz] at h; cases h
      | some z =>
      rw [hz] at h
      simp only [Option.bind_some] at h
      split at h
      · rename_i hb
        split at h
        · cases h
        · rename_i hb0
          cases h
          obtain ⟨r, w', h1, h2⟩ := sim_makeSlice (i := i) (j := j) g hid hT hz hb.1 hb.2.1 hb.2.2 hb0
          refine fine_val (s := Instr.makeSlice t (σ l) (σ c)) rfl ⟨r, w', ?_, made_wide h2⟩
          rw [hl.int_inv, hc.int_inv]; exact h1
      · cases h
    · cases h
  case slice t x lo hi mx =>
    obtain ⟨h1, rfl⟩ := soft_some h
    exact fine_soft g rfl (sim_slice g h1 (hρ x) (optRel hρ lo) (optRel hρ hi) (by cases mx <;> rfl))
  case fieldAddr s x f =>
    obtain ⟨h1, rfl⟩ := soft_some h
    exact fine_soft g rfl (sim_fieldAddr h1 (hρ x))
  case field s x f =>
    obtain ⟨h1, rfl⟩ := soft_some h
    exact fine_soft g rfl (sim_field h1 (hρ x))
  case indexAddr t x i =>
    obtain ⟨h1, rfl⟩ := soft_some h
    exact fine_soft g rfl (sim_indexAddr g h1 (hρ x) (hρ i))
  case index t x i =>
    obtain ⟨h1, rfl⟩ := soft_some h
    exact fine_soft g rfl (sim_index h1 (hρ x) (hρ i))
  case extract x i =>
    have hx := hρ x
    split at h
    · rename_i xs e
      rw [e] at hx
      obtain ⟨h1, rfl⟩ := soft_some h
      obtain ⟨vs, e', hr⟩ := hx.tup_inv
      obtain ⟨y, hy, hv⟩ := hr.get h1
      refine fine_soft (s := Instr.extract (σ x) i) g rfl ⟨y, ?_, hv⟩
      rw [e']
      simp [Instr.extract, hy, pure, Sem.run]
    · cases h
  case call c =>
    split at h
    · rename_i f hf
      split at h
      · rename_i q caps e
        have hx := hρ f
        rw [e] at hx
        obtain ⟨vs, e', hr⟩ := hx.fn_inv
        obtain ⟨as, pin, hh, r', hrr⟩ := exCall_run h
        obtain ⟨fn, hfn, hb, hname⟩ := hent _ _ _ _ _ hrr
        have hcall := sim_call hrun g fresh h (vals := c.args.toList.map σ ++ vs) ((relVs_map hρ c.args.toList).append hr)
        intro a next Q hn
        have he : (execOp σ ⟨d, .call c, T, p, af, gd⟩).run cx.P w = .ok (.enter q (c.args.toList.map σ ++ vs).toArray) w := by
          have e2 : (c.args.toList.map σ ++ vs).toArray = (c.args.map σ) ++ vs.toArray := by simp
          rw [e2, ← enter_run hfn hb hname]
          simp [execOp, resolve, hf, Deferred.ofValue, e', invoke, Sem.run_bind, pure, Sem.run]
        rw [he, Oper.upon_enter]
        refine Calls.mono hcall fun e w' he => ?_
        obtain ⟨v', rfl, hl⟩ := he
        exact hn v' w' hl
      · cases h
    · rename_i b hb
      have hargs := relVs_map hρ c.args.toList
      have ha : (c.args.map σ) = (c.args.toList.map σ).toArray := by rw [← Array.toList_map]
      generalize hls : c.args.toList.map ρ = ls at h hargs
      generalize hus : c.args.toList.map σ = us at ha hargs
      have hat : c.argTypes = c.argTypes.toList.toArray := rfl
      generalize c.argTypes.toList = ts at h hat
      have hex : ∀ s : Sem Value, builtin b c.argTypes T (c.args.map fun | .const _ => true | _ => false) us.toArray = (do pure (Next.value (← s)) : Sem Next) → (execOp σ ⟨d, .call c, T, p, af, gd⟩).run cx.P w = ((do pure (Next.value (← s)) : Sem Next)).run cx.P w := by
        intro s hs
        rw [← hs, ← ha]
        simp [execOp, resolve, hb, invoke, Sem.run_bind, pure, Sem.run]
        rfl
      have fin : ∀ s : Sem Value, builtin b c.argTypes T (c.args.map fun | .const _ => true | _ => false) us.toArray = (do pure (Next.value (← s)) : Sem Next) → (∃ r w', s.run cx.P w = .ok r w' ∧ LeftW X F w β H' id0 v r w') → OpFine cx X F w β H' id0 v ⟨d, .call c, T, p, af, gd⟩ σ := by
        intro s hs ⟨r, w', h1, h2⟩ a next Q hn
        rw [hex s hs, run_v h1]
        exact hn r w' h2
      unfold exBuiltin at h
      split at h
      · rename_i x
        cases hargs with
        | cons _ _ u us h1 h2 =>
        cases h2
        split at h
        · rename_i A
          obtain ⟨h3, e0⟩ := soft_some h
          subst e0
          cases hl : lenOf cx.P A H' x with
          | none => rw [hl] at h3; cases h3
          | some n =>
            rw [hl] at h3
            cases h3
            refine fin (Builtin.len_ c.argTypes T #[u]) rfl ⟨_, w, ?_, .same g (RelV.int rfl)⟩
            rw [hat]
            exact sim_len g hl h1
        · cases h
      · rename_i x y
        cases hargs with
        | cons _ _ u us h1 h2 =>
        cases h2 with
        | cons _ _ u2 us h2 h3 =>
        cases h3
        split at h
        · rename_i A B
          refine fin (Builtin.append_ c.argTypes T #[u, u2]) rfl ?_
          rw [hat]
          obtain ⟨r, w', h4, h5⟩ := sim_append (ty := T) g hid h h1 h2
          exact ⟨r, w', h4, h5.wide⟩
        · cases h
      · rename_i x y
        cases hargs with
        | cons _ _ u us h1 h2 =>
        cases h2 with
        | cons _ _ u2 us h2 h3 =>
        cases h3
        split at h
        · rename_i A B
          refine fin (Builtin.copy_ c.argTypes T #[u, u2]) rfl ?_
          rw [hat]
          obtain ⟨r, w', h4, h5⟩ := sim_copy (ty := T) g h h1 h2
          exact ⟨r, w', h4, h5.wide⟩
        · cases h
      · rename_i x l
        cases hargs with
        | cons _ _ u us h1 h2 =>
        obtain ⟨h3, rfl⟩ := soft_some h
        obtain ⟨r, h4, h5⟩ := sim_minL (P := cx.P) h3 h2 h1
        exact fin (Builtin.min_ c.argTypes T (u :: us).toArray) rfl ⟨r, w, h4, .same g h5⟩
      · rename_i x l
        cases hargs with
        | cons _ _ u us h1 h2 =>
        obtain ⟨h3, rfl⟩ := soft_some h
        obtain ⟨r, h4, h5⟩ := sim_minL (P := cx.P) h3 h2 h1
        exact fin (Builtin.max_ c.argTypes T (u :: us).toArray) rfl ⟨r, w, h4, .same g h5⟩
      · cases h
    · cases h
  all_goals cases h
end
end Go.LM
