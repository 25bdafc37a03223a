/- LM: fresh numbers; what an operation looks at; pure operations. -/
import Derived.Test.YtipoadjhenjpiaaLmD2
set_option linter.unusedVariables false
set_option linter.unusedSimpArgs false
namespace Go.LM

section
variable {H : Heap}

theorem arrAt_told {id off : Nat} {r} (h : arrAt H id off = some r) : H id ≠ none := by
  intro e; unfold arrAt at h; rw [e] at h; cases h

theorem setArr_fresh {id off : Nat} {t : Ty} {ys : List t.D} {H' : Heap} (h : setArr H id off t ys = some H') {j : Nat} (hj : H j = none) : H' j = none := by
  unfold setArr at h
  have key : ∀ b : Blk, H id ≠ none → (H.set id b) j = none := fun b hne => by
    rw [Heap.set_ne (fun e => by subst e; exact hne hj)]; exact hj
  split at h
  · rename_i u xs fr hH
    split at h
    · cases hx : castL (u := u) ys with
      | none => rw [hx] at h; cases h
      | some zs => rw [hx] at h; cases h; exact key _ (by rw [hH]; intro e; cases e)
    · cases h
  · rename_i cs hH
    split at h
    · rename_i n u _ _
      cases hx : castL (u := u) ys with
      | none => rw [hx] at h; cases h
      | some zs =>
        rw [hx] at h
        simp only [Option.bind_some] at h
        cases hl : setLeaf cs off (.dat (.ar n u) zs) with
        | none => rw [hl] at h; cases h
        | some cs' => rw [hl] at h; cases h; exact key _ (by rw [hH]; intro e; cases e)
    · cases h
  · cases h

theorem exStore_fresh {P : Program} {T : TypeId} {a v : AV} {H' : Heap} (h : exStore P T H a v = some H') {j : Nat} (hj : H j = none) : H' j = none := by
  unfold exStore at h
  split at h
  · rename_i id p
    split at h
    · split at h
      · rename_i cs hH
        split at h
        · obtain ⟨cs', _, h⟩ := Option.bind_eq_some_iff.1 h
          split at h
          · cases h; rw [Heap.set_ne (fun e => by subst e; rw [hj] at hH; cases hH)]; exact hj
          · cases h
        · cases h
      · cases h
    · split at h
      · obtain ⟨u, _, h⟩ := Option.bind_eq_some_iff.1 h
        obtain ⟨y, _, h⟩ := Option.bind_eq_some_iff.1 h
        obtain ⟨z, _, h⟩ := Option.bind_eq_some_iff.1 h
        exact setArr_fresh h hj
      · cases h
  · cases h

theorem freezeL_none {l : List AV} {j : Nat} (hj : H j = none) : freezeL l H j = none := by
  rw [freezeL_eq]
  split
  · rw [hj]; rfl
  · exact hj

theorem exCall_fresh {cx : Cx} {f : FuncId} {args : List AV} {id0 : Nat} {v : AV} {H' : Heap} {hd : Bool} (h : exCall cx f args H id0 = some (v, H', hd)) {j : Nat} (hj : H j = none) (hr : ¬ (id0 ≤ j ∧ j < id0 + W)) : H' j = none := by
  unfold exCall at h
  obtain ⟨as, _, h⟩ := Option.bind_eq_some_iff.1 h
  simp only at h
  generalize hmv : reach H 8 (addNew [] (idsL as)) = moved at h
  split at h
  · rename_i hchk
    obtain ⟨q, _, h⟩ := Option.bind_eq_some_iff.1 h
    obtain ⟨r, h1, n1⟩ := q
    simp only at h
    split at h
    · rename_i hn
      simp only [Bool.and_eq_true, decide_eq_true_eq] at hchk hn
      simp only [Option.some.injEq, Prod.mk.injEq] at h
      obtain ⟨_, h, _⟩ := h
      have hm : mergeH H h1 moved id0 n1 j = none := by
        unfold mergeH
        cases hi : idxOf j moved 0 with
        | some k =>
          exfalso
          have := (idxOf_some hi).2
          have hmem := List.mem_of_getElem? this
          have := List.all_eq_true.1 hchk.1.1.1.1.1 j hmem
          rw [hj] at this; cases this
        | none =>
          simp only
          rw [if_neg]
          · exact hj
          · intro hc
            refine hr ⟨hc.1, ?_⟩
            have := hn.1
            unfold W
            omega
      rw [← h]
      split
      · exact freezeL_none hm
      · exact hm
    · cases h
  · cases h

theorem exOp_fresh {cx : Cx} {ρ : Operand → AV} {o : Op} {T : TypeId} {id0 : Nat} {v : AV} {H' : Heap} {hd : Bool} (h : exOp cx ρ o T H id0 = some (v, H', hd)) {j : Nat} (hj : H j = none) (hr : ¬ (id0 ≤ j ∧ j < id0 + W)) : H' j = none := by
  cases hd with
  | false => rw [(exOp_soft h).1 j hr]; exact hj
  | true =>
  have h0 : j ≠ id0 := fun e => hr ⟨by omega, by unfold W; omega⟩
  have sft : ∀ {a : Option AV}, soft H a = some (v, H', true) → False := fun {a} e => by
    unfold soft at e; cases a <;> simp at e
  cases o <;> simp only [exOp] at h
  case buildSlice t n ps =>
    obtain ⟨q, _, h⟩ := Option.bind_eq_some_iff.1 h
    obtain ⟨z, _, h⟩ := Option.bind_eq_some_iff.1 h
    split at h
    · cases h
    · obtain ⟨xs, _, h⟩ := Option.map_eq_some_iff.1 h
      simp only [Prod.mk.injEq] at h
      rw [← h.2.1, Heap.set_ne h0]
      exact freezeL_none hj
  case store t b x =>
    obtain ⟨h', hs, h⟩ := Option.map_eq_some_iff.1 h
    simp only [Prod.mk.injEq] at h
    rw [← h.2.1]; exact exStore_fresh hs hj
  case call c =>
    split at h
    · split at h
      · exact exCall_fresh h hj hr
      · cases h
    · unfold exBuiltin at h
      split at h
      · split at h
        · exact (sft h).elim
        · cases h
      · rename_i x y _
        split at h
        · rename_i A B
          unfold exAppend at h
          obtain ⟨q, _, h⟩ := Option.bind_eq_some_iff.1 h
          obtain ⟨z, _, h⟩ := Option.bind_eq_some_iff.1 h
          split at h
          · cases h
          · obtain ⟨ys, _, h⟩ := Option.bind_eq_some_iff.1 h
            split at h
            · split at h
              · simp at h
              · cases h
            · rename_i id
              split at h
              · rename_i u xs hH
                obtain ⟨zs, _, h⟩ := Option.bind_eq_some_iff.1 h
                split at h
                · simp only [Option.some.injEq, Prod.mk.injEq] at h
                  rw [← h.2.1, Heap.set_ne h0, Heap.set_ne (fun e => by subst e; rw [hj] at hH; cases hH)]
                  exact hj
                · cases h
              · cases h
            · cases h
        · cases h
      · rename_i x y _
        split at h
        · rename_i A B
          unfold exCopy at h
          obtain ⟨q, _, h⟩ := Option.bind_eq_some_iff.1 h
          obtain ⟨z, _, h⟩ := Option.bind_eq_some_iff.1 h
          simp only at h
          split at h
          · obtain ⟨zs, _, h⟩ := Option.bind_eq_some_iff.1 h
            obtain ⟨ys, _, h⟩ := Option.bind_eq_some_iff.1 h
            obtain ⟨w, hw, h⟩ := Option.map_eq_some_iff.1 h
            simp only [Prod.mk.injEq] at h
            rw [← h.2.1]; exact setArr_fresh hw hj
          · cases h
        · cases h
      · exact (sft h).elim
      · exact (sft h).elim
      · cases h
    · cases h
  case convert s t x =>
    unfold exConvert at h
    split at h
    · split at h <;> simp at h
    · split at h <;> simp at h
    · split at h
      · obtain ⟨xs, _, h⟩ := Option.map_eq_some_iff.1 h; simp at h
      · cases h
    · split at h
      · split at h <;> simp at h
      · cases h
    · cases h
  case alloc e =>
    obtain ⟨l, _, h⟩ := Option.bind_eq_some_iff.1 h
    split at h <;> simp at h
  case box e x => split at h <;> simp at h
  case makeSlice t l c =>
    split at h
    · obtain ⟨q, _, h⟩ := Option.bind_eq_some_iff.1 h
      obtain ⟨z, _, h⟩ := Option.bind_eq_some_iff.1 h
      split at h
      · split at h <;> simp at h
      · cases h
    · cases h
  case makeFunc fn first caps =>
    cases fn with
    | func f => simp only at h; split at h <;> simp at h
    | _ => cases h
  case extract x i =>
    split at h
    · exact (sft h).elim
    · cases h
  case pick c a b => split at h <;> simp at h
  case nilCheck x => split at h <;> simp at h
  all_goals first
    | exact (sft h).elim
    | (simp at h; done)
    | cases h

/-- A pure operation gives the same in every heap. -/
theorem exOp_pure {cx : Cx} {ρ : Operand → AV} {o : Op} {T : TypeId} {id0 : Nat} {v : AV} {H' : Heap} {hd : Bool} (hp : pureOp cx.P o = true) (h : exOp cx ρ o T H id0 = some (v, H', hd)) :
    H' = H ∧ hd = false ∧ ∀ H2, exOp cx ρ o T H2 id0 = some (v, H2, false) := by
  have sft : ∀ {a : Option AV}, soft H a = some (v, H', hd) → H' = H ∧ hd = false ∧ ∀ H2, soft H2 a = some (v, H2, false) := fun {a} e => by
    unfold soft at e ⊢
    cases a with
    | none => cases e
    | some x => cases e; exact ⟨rfl, rfl, fun _ => rfl⟩
  have cst : ∀ {x : AV}, some (x, H, false) = some (v, H', hd) → H' = H ∧ hd = false ∧ ∀ H2 : Heap, some (x, H2, false) = some (v, H2, false) := fun {x} e => by cases e; exact ⟨rfl, rfl, fun _ => rfl⟩
  cases o <;> simp only [pureOp] at hp <;> simp only [exOp] at h ⊢
  case move x => exact cst h
  case assign x => exact cst h
  case pick c a b => split at h <;> first | (simp_all; done) | exact cst h | cases h
  case nilCheck x => split at h <;> first | (simp_all; done) | exact cst h | cases h
  case binOp op t x y u => exact sft h
  case unOp op t x => exact sft h
  case fieldAddr s x f => exact sft h
  case field s x f => exact sft h
  case index t x i => exact sft h
  case extract x i =>
    split at h
    · rename_i e; first | (simp only [e]; exact sft h) | exact sft h
    · cases h
  case convert s d x =>
    unfold exConvert at h ⊢
    split at hp
    · rename_i k1 k2 hs hd'
      simp only [hs, hd'] at h ⊢
      split at h
      · exact cst h
      · cases h
    · cases hp
  case slice t x lo hi mx =>
    split at hp
    · rename_i hT
      have : ∀ H2, exSlice cx.P t H2 (ρ x) (lo.map ρ) (hi.map ρ) mx.isSome = exSlice cx.P t H (ρ x) (lo.map ρ) (hi.map ρ) mx.isSome := fun H2 => by
        unfold exSlice
        simp only [hT]
        generalize ρ x = q
        cases q with
        | dat u y => cases u <;> rfl
        | _ => rfl
      obtain ⟨a, b, c⟩ := sft h
      exact ⟨a, b, fun H2 => by rw [this H2]; exact c H2⟩
    · cases hp
  all_goals cases hp

theorem mem_ops1 {ps : Array (Nat × Operand)} {p : Nat × Operand} (h : p ∈ ps.toList) : p.2 ∈ ps.map (·.2) := Array.mem_map.2 ⟨p, Array.mem_toList_iff.1 h, rfl⟩

theorem exOp_congr {cx : Cx} {ρ ρ' : Operand → AV} {o : Op} {T : TypeId} {id0 : Nat} (h : ∀ x ∈ o.operands, ρ x = ρ' x) : exOp cx ρ o T H id0 = exOp cx ρ' o T H id0 := by
  have pairs : ∀ ps : Array (Nat × Operand), (∀ x ∈ ps.map (·.2), ρ x = ρ' x) → (ps.toList.map fun (i, x) => (i, ρ x)) = (ps.toList.map fun (i, x) => (i, ρ' x)) := fun ps hp =>
    List.map_congr_left fun p hm => by
      obtain ⟨i, x⟩ := p
      simp only [hp x (mem_ops1 hm)]
  have leavesC : ∀ ps : Array (Nat × Operand), (∀ x ∈ ps.map (·.2), ρ x = ρ' x) → (ps.toList.flatMap fun (_, x) => (ρ x).leaves) = (ps.toList.flatMap fun (_, x) => (ρ' x).leaves) := fun ps hp => by
    have : ∀ l : List (Nat × Operand), (∀ p ∈ l, ρ p.2 = ρ' p.2) → (l.flatMap fun (_, x) => (ρ x).leaves) = (l.flatMap fun (_, x) => (ρ' x).leaves) := fun l => by
      induction l with
      | nil => intro _; rfl
      | cons p l ih =>
        intro hl
        simp only [List.flatMap_cons]
        rw [ih fun q hq => hl q (by simp [hq]), hl p (by simp)]
    exact this _ fun p hm => hp _ (mem_ops1 hm)
  have lst : ∀ xs : Array Operand, (∀ x ∈ xs, ρ x = ρ' x) → xs.toList.map ρ = xs.toList.map ρ' := fun xs hx => List.map_congr_left fun x hm => hx x (Array.mem_toList_iff.1 hm)
  cases o <;> simp only [Op.operands] at h <;> simp only [exOp]
  case build t ps => rw [pairs ps fun x hx => h x (by simpa using hx)]
  case buildSlice t n ps => rw [pairs ps fun x hx => h x (by simpa using hx), leavesC ps fun x hx => h x (by simpa using hx)]
  case makeFunc fn first caps =>
    cases fn <;> simp only []
    rw [lst caps fun x hx => h x (by simp [hx])]
  case call c =>
    have hargs := lst c.args fun x hx => h x (by simp [Call.operands, hx])
    simp only [hargs]
    cases hc : c.callee with
    | value f => have hf : ρ f = ρ' f := h f (by simp [Call.operands, hc]); simp only [hf]
    | invoke r m => rfl
    | builtin b => rfl
  case slice t x lo hi mx => cases lo <;> cases hi <;> cases mx <;> simp_all
  all_goals (first | rfl | (simp_all; done))
end
end Go.LM
