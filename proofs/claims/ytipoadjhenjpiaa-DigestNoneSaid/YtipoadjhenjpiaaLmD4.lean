/- LM: a region whose order is open: what is known of its run in the text's order. -/
import Derived.Test.YtipoadjhenjpiaaLmD3
set_option linter.unusedVariables false
set_option linter.unusedSimpArgs false
namespace Go.LM

/-- The run in the text's order. -/
structure Trace (cx : Cx) (ops : Array Oper) (base : Nat) (E : Nat → Nat → AV) (hs : Nat → Heap) (vs : Nat → AV) (fs : Nat → Bool) : Prop where
  step : ∀ k o, ops[k]? = some o → exOne cx ops base k o (E k) (hs k) = some (vs k, hs (k + 1), fs k) ∧ E (k + 1) = put (E k) o.dst (vs k)

theorem trace_list {cx : Cx} {ops : Array Oper} {base : Nat} : ∀ (l : List Oper) (k : Nat) (env : Nat → AV) (h : Heap) (env' : Nat → AV) (h' : Heap) (fl : List Bool), exOpsF cx ops base l k env h = some (env', h', fl) →
    fl.length = l.length ∧ ∃ (E : Nat → Nat → AV) (hs : Nat → Heap) (vs : Nat → AV), E k = env ∧ hs k = h ∧ E (k + l.length) = env' ∧ hs (k + l.length) = h' ∧
      ∀ i o, l[i]? = some o → exOne cx ops base (k + i) o (E (k + i)) (hs (k + i)) = some (vs (k + i), hs (k + i + 1), fl.getD i false) ∧ E (k + i + 1) = put (E (k + i)) o.dst (vs (k + i))
  | [], k, env, h, env', h', fl, he => by
    simp only [exOpsF, Option.some.injEq, Prod.mk.injEq] at he
    obtain ⟨rfl, rfl, rfl⟩ := he
    exact ⟨rfl, fun _ => env, fun _ => h, fun _ => .any, rfl, rfl, rfl, rfl, fun i o hi => by simp at hi⟩
  | o :: l, k, env, h, env', h', fl, he => by
    simp only [exOpsF] at he
    cases h1 : exOne cx ops base k o env h with
    | none => rw [h1] at he; cases he
    | some q =>
      obtain ⟨v, h2, hd⟩ := q
      rw [h1] at he
      simp only at he
      cases h3 : exOpsF cx ops base l (k + 1) (put env o.dst v) h2 with
      | none => rw [h3] at he; cases he
      | some r =>
        obtain ⟨e4, h4, f4⟩ := r
        rw [h3] at he
        simp only [Option.some.injEq, Prod.mk.injEq] at he
        obtain ⟨rfl, rfl, rfl⟩ := he
        obtain ⟨hl, E, hs, vs, a1, a2, a3, a4, a5⟩ := trace_list l (k + 1) _ _ _ _ _ h3
        refine ⟨by simp [hl], fun j => if j = k then env else E j, fun j => if j = k then h else hs j, fun j => if j = k then v else vs j, by simp, by simp, ?_, ?_, fun i o' hi => ?_⟩
        · have : k + (o :: l).length ≠ k := by simp
          simp only [this, if_false]
          rw [← a3]; congr 1; simp; omega
        · have : k + (o :: l).length ≠ k := by simp
          simp only [this, if_false]
          rw [← a4]; congr 1; simp; omega
        · cases i with
          | zero =>
            simp at hi
            subst hi
            simp only [Nat.add_zero, if_true, List.getD_cons_zero]
            have : k + 1 ≠ k := by omega
            simp only [this, if_false]
            exact ⟨by rw [a2]; exact h1, a1⟩
          | succ i =>
            simp at hi
            have := a5 i o' hi
            have e1 : k + (i + 1) ≠ k := by omega
            have e2 : k + (i + 1) + 1 ≠ k := by omega
            simp only [e1, e2, if_false, List.getD_cons_succ]
            rw [show k + (i + 1) = k + 1 + i by omega]
            exact this

theorem trace_of {cx : Cx} {ops : Array Oper} {base : Nat} {env env' : Nat → AV} {h h' : Heap} {fl : List Bool} (he : exOpsF cx ops base ops.toList 0 env h = some (env', h', fl)) :
    fl.length = ops.size ∧ ∃ (E : Nat → Nat → AV) (hs : Nat → Heap) (vs : Nat → AV), E 0 = env ∧ hs 0 = h ∧ E ops.size = env' ∧ hs ops.size = h' ∧ Trace cx ops base E hs vs (fun k => fl.getD k false) := by
  obtain ⟨h1, E, hs, vs, a1, a2, a3, a4, a5⟩ := trace_list _ _ _ _ _ _ _ he
  refine ⟨by simpa using h1, E, hs, vs, a1, a2, by simpa using a3, by simpa using a4, ⟨fun k o ho => ?_⟩⟩
  have := a5 k o (by simpa using ho)
  simpa using this

/-! ### the check -/
theorem bindsTo_mem {o : Oper} {j : Nat} (h : bindsTo o j = true) : ∃ e ∈ o.after, Region.binds .any e = true ∧ e.on = j := by
  unfold bindsTo at h
  obtain ⟨e, he, h⟩ := List.any_eq_true.1 h
  simp only [Bool.and_eq_true, beq_iff_eq] at h
  exact ⟨e, Array.mem_toList_iff.1 he, h.1, h.2⟩

theorem ahead_all {P : Program} {ops : Array Oper} {ok : Oper} {fk : Bool} : ∀ (l : List Oper) (fs : List Bool) (b : Nat), aheadOK P ops ok fk l fs b = true →
    ∀ (i : Nat) oj fj, l[i]? = some oj → fs[i]? = some fj → pairOK P ops oj ok (b + i) fj fk = true
  | [], fs, b, h, i, oj, fj, h1, h2 => by simp at h1
  | o :: l, [], b, h, i, oj, fj, h1, h2 => by simp at h2
  | o :: l, f :: fs, b, h, i, oj, fj, h1, h2 => by
    simp only [aheadOK, Bool.and_eq_true] at h
    cases i with
    | zero => simp at h1 h2; subst h1; subst h2; exact h.1
    | succ i =>
      simp at h1 h2
      have := ahead_all l fs (b + 1) h.2 i oj fj h1 h2
      rw [show b + (i + 1) = b + 1 + i by omega]; exact this

theorem drawGo_all {P : Program} {ops : Array Oper} {all : List Oper} {allF : List Bool} : ∀ (l : List Oper) (fs : List Bool) (b : Nat), drawGo P ops all allF l fs b = true →
    ∀ (i : Nat) o f, l[i]? = some o → fs[i]? = some f → (∀ e ∈ o.after, Region.binds .any e = true → e.on < b + i) ∧ aheadOK P ops o f (all.take (b + i)) (allF.take (b + i)) 0 = true
  | [], fs, b, h, i, oj, fj, h1, h2 => by simp at h1
  | o :: l, [], b, h, i, oj, fj, h1, h2 => by simp at h2
  | o :: l, f :: fs, b, h, i, oj, fj, h1, h2 => by
    simp only [drawGo, Bool.and_eq_true] at h
    cases i with
    | zero =>
      simp at h1 h2; subst h1; subst h2
      refine ⟨fun e he hb => ?_, by simpa using h.1.2⟩
      have := List.all_eq_true.1 h.1.1 e (Array.mem_toList_iff.2 he)
      rw [hb] at this
      simpa using this
    | succ i =>
      simp at h1 h2
      have := drawGo_all l fs (b + 1) h.2 i oj fj h1 h2
      rw [show b + (i + 1) = b + 1 + i by omega]; exact this

structure Drawn (P : Program) (ops : Array Oper) (fs : Nat → Bool) : Prop where
  back : ∀ (k : Nat) (o : Oper), ops[k]? = some o → ∀ e ∈ o.after, Region.binds .any e = true → e.on < k
  dst : ∀ (j k : Nat) (oj ok : Oper) (d : Tmp), j < k → ops[j]? = some oj → ops[k]? = some ok → oj.dst = some d → ok.dst ≠ some d
  use : ∀ (j k : Nat) (oj ok : Oper) (d : Tmp), j < k → ops[j]? = some oj → ops[k]? = some ok → oj.dst = some d → d ∈ ok.looksAt ops → bindsIn ops 4 ok j = true
  anti : ∀ (j k : Nat) (oj ok : Oper) (d : Tmp), j < k → ops[j]? = some oj → ops[k]? = some ok → ok.dst = some d → d ∈ oj.looksAt ops → bindsIn ops 4 ok j = true
  hard : ∀ (j k : Nat) (oj ok : Oper), j < k → ops[j]? = some oj → ops[k]? = some ok → ((fs j = true ∧ pureOp P ok.op = false) ∨ (fs k = true ∧ pureOp P oj.op = false)) → bindsIn ops 4 ok j = true

theorem drawn_of {P : Program} {ops : Array Oper} {fl : List Bool} (hl : fl.length = ops.size) (h : drawGo P ops ops.toList fl ops.toList fl 0 = true) : Drawn P ops (fun k => fl.getD k false) := by
  have hf : ∀ k o, ops[k]? = some o → fl[k]? = some (fl.getD k false) := fun k o ho => by
    have hlt : k < ops.size := (Array.getElem?_eq_some_iff.1 ho).1
    rw [List.getD_eq_getElem?_getD, List.getElem?_eq_getElem (by omega)]; rfl
  have main : ∀ k o, ops[k]? = some o → (∀ e ∈ o.after, Region.binds .any e = true → e.on < k) ∧ aheadOK P ops o (fl.getD k false) (ops.toList.take k) (fl.take k) 0 = true := fun k o ho => by
    have := drawGo_all _ _ _ h k o _ (by simpa using ho) (hf k o ho)
    simpa using this
  have pair : ∀ j k oj ok, j < k → ops[j]? = some oj → ops[k]? = some ok → pairOK P ops oj ok j (fl.getD j false) (fl.getD k false) = true := fun j k oj ok hjk hj hk => by
    have := ahead_all _ _ _ (main k ok hk).2 j oj (fl.getD j false) (by rw [List.getElem?_take, if_pos hjk]; simpa using hj) (by rw [List.getElem?_take, if_pos hjk]; exact hf j oj hj)
    simpa using this
  refine ⟨fun k o ho => (main k o ho).1, fun j k oj ok d hjk hj hk hd => ?_, fun j k oj ok d hjk hj hk hd hm => ?_, fun j k oj ok d hjk hj hk hd hm => ?_, fun j k oj ok hjk hj hk hh => ?_⟩
  · have := pair j k oj ok hjk hj hk
    simp only [pairOK, hd, Bool.and_eq_true] at this
    have := this.1.1.1
    simpa using this
  · have := pair j k oj ok hjk hj hk
    simp only [pairOK, hd, Bool.and_eq_true, Bool.or_eq_true, Bool.not_eq_true'] at this
    rcases this.1.1.2 with h | h
    · simp [hm] at h
    · exact h
  · have := pair j k oj ok hjk hj hk
    simp only [pairOK, hd, Bool.and_eq_true, Bool.or_eq_true, Bool.not_eq_true'] at this
    rcases this.1.2 with h | h
    · simp [hm] at h
    · exact h
  · have := pair j k oj ok hjk hj hk
    simp only [pairOK, Bool.and_eq_true] at this
    have h3 := this.2
    rcases hh with ⟨h1, h2⟩ | ⟨h1, h2⟩
    · simp only [h1, h2] at h3; simpa using h3
    · simp only [h1, h2] at h3; simpa using h3

section
variable {cx : Cx} {ops : Array Oper} {base : Nat} {E : Nat → Nat → AV} {hs : Nat → Heap} {vs : Nat → AV} {fs : Nat → Bool}

/-- A step of the text's order: an operation, or nothing. -/
theorem exOne_cases {k : Nat} {o : Oper} {env : Nat → AV} {h h' : Heap} {v : AV} {hd : Bool} (he : exOne cx ops base k o env h = some (v, h', hd)) :
    (exOp cx (evalO env) o.op o.type h (base + k * W) = some (v, h', hd) ∧ (o.guard = none ∨ ∃ j want g, o.guard = some (j, want) ∧ dstOf ops j = some g ∧ env g = .dat .bool want)) ∨
    ((v = .tup [] ∧ h' = h ∧ hd = false) ∧ ∃ j want g, o.guard = some (j, want) ∧ dstOf ops j = some g ∧ (env g = .dat .bool (!want) ∨ env g = .tup [])) := by
  unfold exOne at he
  cases hg : o.guard with
  | none => rw [hg] at he; exact .inl ⟨he, .inl rfl⟩
  | some jw =>
    obtain ⟨j, want⟩ := jw
    rw [hg] at he
    simp only at he
    cases hdj : dstOf ops j with
    | none => rw [hdj] at he; cases he
    | some g =>
      rw [hdj] at he
      simp only at he
      split at he
      · rename_i b hb
        split at he
        · exact .inl ⟨he, .inr ⟨j, true, g, rfl, hdj, hb⟩⟩
        · exact .inl ⟨he, .inr ⟨j, false, g, rfl, hdj, hb⟩⟩
        · cases he; exact .inr ⟨⟨rfl, rfl, rfl⟩, j, false, g, rfl, hdj, .inl hb⟩
        · cases he; exact .inr ⟨⟨rfl, rfl, rfl⟩, j, true, g, rfl, hdj, .inl hb⟩
      · rename_i hb
        cases he; exact .inr ⟨⟨rfl, rfl, rfl⟩, j, want, g, rfl, hdj, .inr hb⟩
      · cases he

theorem Trace.heap_none (t : Trace cx ops base E hs vs fs) (h0 : ∀ j, base ≤ j → hs 0 j = none) (k : Nat) : k ≤ ops.size → ∀ j, base + k * W ≤ j → hs k j = none := by
  induction k with
  | zero => intro _ j hj; exact h0 j (by omega)
  | succ k ih =>
    intro hk j hj
    have ho : ops[k]? = some ops[k] := Array.getElem?_eq_getElem (by omega)
    obtain ⟨h1, _⟩ := t.step k _ ho
    rw [Nat.add_mul, Nat.one_mul] at hj
    have ih := ih (by omega) j (by omega)
    rcases exOne_cases h1 with ⟨h2, _⟩ | ⟨⟨_, h2, _⟩, _⟩
    · exact exOp_fresh h2 ih (fun hc => by omega)
    · rw [h2]; exact ih

theorem Trace.heap_keep (t : Trace cx ops base E hs vs fs) {a : Nat} : ∀ (n : Nat), a + n ≤ ops.size → (∀ q, a ≤ q → q < a + n → fs q = false) → ∀ j, j < base + a * W → hs (a + n) j = hs a j
  | 0, _, _, j, hj => rfl
  | n + 1, hn, hf, j, hj => by
    have ho : ops[a + n]? = some ops[a + n] := Array.getElem?_eq_getElem (by omega)
    obtain ⟨h1, _⟩ := t.step (a + n) _ ho
    have ih := Trace.heap_keep t n (by omega) (fun q h1 h2 => hf q h1 (by omega)) j hj
    have hle : a * W ≤ (a + n) * W := Nat.mul_le_mul_right _ (by omega)
    rw [show a + (n + 1) = a + n + 1 by omega, ← ih]
    rcases exOne_cases h1 with ⟨h2, _⟩ | ⟨⟨_, h2, _⟩, _⟩
    · rw [hf (a + n) (by omega) (by omega)] at h2
      exact (exOp_soft h2).1 j (fun hc => by omega)
    · rw [h2]

theorem Trace.keep (t : Trace cx ops base E hs vs fs) {a b : Nat} (hab : a ≤ b) (hb : b ≤ ops.size) (hf : ∀ q, a ≤ q → q < b → fs q = false) : ∀ j, j < base + a * W → hs b j = hs a j := by
  have := t.heap_keep (a := a) (b - a) (by omega) (fun q h1 h2 => hf q h1 (by omega))
  rwa [show a + (b - a) = b by omega] at this

theorem Trace.env (t : Trace cx ops base E hs vs fs) (d : Drawn cx.P ops fs) : ∀ k, k ≤ ops.size → ∀ s, (∃ j o, j < k ∧ ops[j]? = some o ∧ o.dst = some s ∧ E k s = vs j) ∨ ((∀ j o, j < k → ops[j]? = some o → o.dst ≠ some s) ∧ E k s = E 0 s)
  | 0, _, s => .inr ⟨fun j o h => by omega, rfl⟩
  | k + 1, hk, s => by
    have ho : ops[k]? = some ops[k] := Array.getElem?_eq_getElem (by omega)
    obtain ⟨_, h1⟩ := t.step k _ ho
    rw [h1]
    by_cases hd : (ops[k]).dst = some s
    · left
      refine ⟨k, _, by omega, ho, hd, ?_⟩
      rw [hd]; simp [put]
    · have hp : put (E k) (ops[k]).dst (vs k) s = E k s := by
        cases hx : (ops[k]).dst with
        | none => rfl
        | some x =>
          simp only [put]
          rw [if_neg]
          intro e; subst e; exact hd hx
      rw [hp]
      rcases Trace.env t d k (by omega) s with ⟨j, o, h2, h3, h4, h5⟩ | ⟨h2, h3⟩
      · exact .inl ⟨j, o, by omega, h3, h4, h5⟩
      · refine .inr ⟨fun j o hj ho' => ?_, h3⟩
        by_cases e : j = k
        · subst e
          rw [ho] at ho'
          cases ho'; exact hd
        · exact h2 j o (by omega) ho'
end
end Go.LM
