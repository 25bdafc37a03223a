/- LM: slots; cleaning. -/
import Derived.Test.YtipoadjhenjpiaaLmO2
set_option linter.unusedVariables false
set_option linter.unusedSimpArgs false
namespace Go.LM

def EnvRel (F : Nat → Prop) (w : World) (β : Nat → Option Conc) (env : Nat → AV) (a : Act) : Prop := ∀ t, RelV F w β (env t) (a.tmps.getD t undef)

structure StRel (X : Cst) (N pin : Nat) (F0 : Nat → Prop) (w0 : World) (β0 : Nat → Option Conc) (F : Nat → Prop) (w : World) (β : Nat → Option Conc) (env : Nat → AV) (h : Heap) (next : Nat) (a : Act) : Prop where
  good : Good X F w β h
  dom : ∀ j, β j ≠ none → j < next
  env : EnvRel F w β env a
  defers : a.defers = []
  size : N ≤ a.tmps.size
  ext : ∀ b, F0 b → F b ∧ cellsAt w b = cellsAt w0 b
  pins : ∀ j, j < pin → β j = β0 j
  pinle : pin ≤ next

def dstOK (N : Nat) : Code → Bool
  | .region _ ops _ => ops.toList.all fun o => match o.dst with | some d => decide (d < N) | none => true
  | .seq a b => dstOK N a && dstOK N b
  | .cond _ a b => dstOK N a && dstOK N b
  | .block _ a => dstOK N a
  | .loop a => dstOK N a
  | _ => true

section
variable {F : Nat → Prop} {w : World} {β : Nat → Option Conc}

theorem EnvRel.eval {env : Nat → AV} {a : Act} (h : EnvRel F w β env a) (x : Operand) : RelV F w β (evalO env x) (a.eval x) := by
  cases x with
  | tmp t => exact h t
  | const v => exact ofVal_rel v
  | global g => exact .any _
  | func f => exact .one _ _ rfl (.fn f [] [] .nil)

theorem EnvRel.mono {F' w' β'} {env : Nat → AV} {a : Act} (h : EnvRel F w β env a) (e : Ext F w β F' w' β') : EnvRel F' w' β' env a := fun t => (h t).mono e

theorem EnvRel.put {env : Nat → AV} {a : Act} (h : EnvRel F w β env a) {d : Option Nat} {v : AV} {r : Value} (hd : ∀ k, d = some k → k < a.tmps.size) (hv : RelV F w β v r) : EnvRel F w β (put env d v) (a.put d r) := by
  intro t
  cases d with
  | none => exact h t
  | some d =>
    have hlt := hd d rfl
    simp only [LM.put, Act.put]
    by_cases e : t = d
    · subst e
      simp [hlt]; exact hv
    · rw [if_neg e]
      have := h t
      simp only [Array.getD_eq_getD_getElem?, Array.getElem?_setIfInBounds_ne (Ne.symm e)] at this ⊢
      exact this

theorem EnvRel.same {env : Nat → AV} {a : Act} (h : EnvRel F w β env a) {g : Nat} {v : AV} (e : env g = v) : EnvRel F w β (LM.put env (some g) v) a := by
  intro t
  simp only [LM.put]
  by_cases e' : t = g
  · subst e'; rw [if_pos rfl, ← e]; exact h t
  · rw [if_neg e']; exact h t

theorem put_size (a : Act) (d : Option Nat) (v : Value) : (a.put d v).tmps.size = a.tmps.size := by cases d <;> simp [Act.put]
theorem put_defers' (a : Act) (d : Option Nat) (v : Value) : (a.put d v).defers = a.defers := by cases d <;> simp [Act.put]

theorem undef_rel : RelV F w β (.tup []) undef := .tup [] [] .nil

/-! ### numbers anew -/
theorem nodupB_snoc : ∀ {l : List Nat} {x : Nat}, nodupB l = true → l.contains x = false → nodupB (l ++ [x]) = true
  | [], x, _, _ => by simp [nodupB]
  | y :: l, x, h, hx => by
    simp only [nodupB, Bool.and_eq_true, List.cons_append] at h ⊢
    simp only [List.contains_cons, Bool.or_eq_false_iff] at hx
    refine ⟨?_, nodupB_snoc h.2 hx.2⟩
    have h1 := h.1
    simp only [Bool.not_eq_true', List.contains_eq_mem, decide_eq_false_iff_not, List.mem_append, List.mem_singleton, not_or] at h1 ⊢
    refine ⟨h1, fun e => ?_⟩
    have := hx.1
    rw [e] at this; simp at this

theorem addNew_spec : ∀ (l acc : List Nat), nodupB acc = true → nodupB (addNew acc l) = true ∧ ∃ m, addNew acc l = acc ++ m
  | [], acc, h => ⟨h, [], by simp [addNew]⟩
  | x :: l, acc, h => by
    simp only [addNew]
    split
    · exact addNew_spec l acc h
    · rename_i hc
      obtain ⟨h1, m, h2⟩ := addNew_spec l (acc ++ [x]) (nodupB_snoc h (by simpa using hc))
      exact ⟨h1, x :: m, by rw [h2]; simp⟩

theorem reach_spec (h : Heap) : ∀ (n : Nat) (l : List Nat), nodupB l = true → nodupB (reach h n l) = true ∧ ∃ m, reach h n l = l ++ m
  | 0, l, hl => ⟨hl, [], by simp [reach]⟩
  | n + 1, l, hl => by
    simp only [reach]
    generalize (List.flatMap _ l) = q
    obtain ⟨h1, m, h2⟩ := addNew_spec q l hl
    split
    · exact ⟨hl, [], by simp⟩
    · obtain ⟨h3, m', h4⟩ := reach_spec h n _ h1
      exact ⟨h3, m ++ m', by rw [h4, h2]; simp⟩

theorem nodupB_range' : ∀ (n k : Nat), nodupB (List.range' k n) = true
  | 0, k => by simp [nodupB]
  | n + 1, k => by
    simp only [List.range'_succ, nodupB, Bool.and_eq_true, nodupB_range' n (k + 1), and_true]
    simp [List.mem_range']
    omega

theorem nodupB_range (n : Nat) : nodupB (List.range n) = true := by rw [List.range_eq_range']; exact nodupB_range' n 0

theorem Good.renum {X H} (g : Good X F w β H) {live : List Nat} (hcl : closedB H live = true) (hnd : nodupB live = true) :
    Good X F w (fun j => (live[j]?).bind β) (fun j => (live[j]?).bind fun id => (H id).map (renB fun id => (idxOf id live 0).getD 0)) ∧
    ∀ id ∈ live, ∀ c, β id = some c → ((live[(idxOf id live 0).getD 0]?).bind β) = some c := by
  have ren1 : ∀ id ∈ live, ∀ c, β id = some c → ((live[(idxOf id live 0).getD 0]?).bind β) = some c := fun id hid c hc => by
    obtain ⟨j, hj⟩ := idxOf_mem (k := 0) hid
    have := (idxOf_some hj).2
    simp only [Nat.sub_zero] at this
    rw [hj]; simp [this, hc]
  have blk : ∀ id ∈ live, ∃ blk, H id = some blk ∧ ∀ k ∈ idsB blk, k ∈ live := fun id hid => by
    have := List.all_eq_true.1 hcl id hid
    split at this
    · rename_i blk hb; exact ⟨blk, hb, fun k hk => all_contains this hk⟩
    · cases this
  have tell : ∀ {j : Nat} {c : Conc}, ((live[j]?).bind β) = some c → ∃ id, live[j]? = some id ∧ β id = some c := fun {j c} hj => by
    cases h : live[j]? with
    | none => rw [h] at hj; cases hj
    | some id => rw [h] at hj; exact ⟨id, rfl, hj⟩
  have owns : ∀ {j id : Nat}, live[j]? = some id → ownB ((live[j]?).bind fun id => (H id).map (renB fun id => (idxOf id live 0).getD 0)) = true → ownB (H id) = true := fun {j id} hj ho => by
    rw [hj] at ho
    simp only [Option.bind_some] at ho
    cases hb : H id with
    | none => rw [hb] at ho; cases ho
    | some b => rw [hb] at ho; cases b <;> simp [ownB, renB] at ho ⊢ <;> exact ho
  refine ⟨⟨fun j c hc => ?_, fun j c b hc ho hb => ?_, fun j j' c c' b hc hc' ho ho' hb hb' => ?_, g.fsz, g.fext, g.fmono, g.frame, g.gsz, g.size, g.tame⟩, ren1⟩
  · obtain ⟨id, hj, hid⟩ := tell hc
    have hm := List.mem_of_getElem? hj
    obtain ⟨b, hb1, hb2⟩ := g.hr id c hid
    obtain ⟨b', hb1', hin⟩ := blk id hm
    rw [hb1] at hb1'; cases hb1'
    refine ⟨_, by rw [hj]; simp only [Option.bind_some]; rw [hb1]; rfl, hb2.ren (fun b hb => ⟨hb, rfl⟩) (fun k hk => ren1 k (hin k hk)) (fun _ _ => rfl)⟩
  · obtain ⟨id, hj, hid⟩ := tell hc
    exact g.own id c b hid (owns hj ho) hb
  · obtain ⟨id, hj, hid⟩ := tell hc
    obtain ⟨id', hj', hid'⟩ := tell hc'
    have := g.uniq id id' c c' b hid hid' (owns hj ho) (owns hj' ho') hb hb'
    subst this
    have e1 := idxOf_get (k := 0) hnd hj
    have e2 := idxOf_get (k := 0) hnd hj'
    rw [e1] at e2
    injection e2 with e2; omega

theorem find_assoc : ∀ (vs : List (Nat × AV)) (k : Nat) (v : AV), assoc vs k = v → v = .any ∨ (k, v) ∈ vs := by
  intro vs k v h
  unfold assoc at h
  cases hf : vs.find? (fun p => p.1 == k) with
  | none => rw [hf] at h; exact .inl h.symm
  | some p =>
    rw [hf] at h
    right
    have h1 := List.find?_some hf
    have h2 := List.mem_of_find?_eq_some hf
    simp only [beq_iff_eq] at h1
    subst h1; subst h; exact h2

theorem mem_addNew : ∀ (l acc : List Nat) (x : Nat), x ∈ acc ∨ x ∈ l → x ∈ addNew acc l
  | [], acc, x, h => by simpa [addNew] using h
  | y :: l, acc, x, h => by
    simp only [addNew]
    refine mem_addNew l _ x ?_
    rcases h with h | h
    · left; split
      · exact h
      · simp [h]
    · simp only [List.mem_cons] at h
      rcases h with rfl | h
      · left; split
        · rename_i hc; simpa using hc
        · simp
      · exact .inr h

theorem mem_reach (h : Heap) (n : Nat) (l : List Nat) (hl : nodupB l = true) (x : Nat) (hx : x ∈ l) : x ∈ reach h n l := by
  obtain ⟨_, m, e⟩ := reach_spec h n l hl
  rw [e]; exact List.mem_append_left _ hx

theorem clean_rel {X : Cst} {N pin : Nat} {F0 : Nat → Prop} {w0 : World} {β0 : Nat → Option Conc} {s s' : St} {a : Act} (r : StRel X N pin F0 w0 β0 F w β s.env s.heap s.next a) {keep : List Nat} (h : clean pin keep s = some s') :
    ∃ β', StRel X N pin F0 w0 β0 F w β' s'.env s'.heap s'.next a := by
  unfold clean at h
  simp only at h
  split at h
  · rename_i hcl
    cases h
    generalize hvs : (keep.map fun k => (k, s.env k)) = vs at hcl
    have hst := addNew_spec (vs.flatMap fun p => idsA p.2) (List.range pin) (nodupB_range pin)
    obtain ⟨hn1, m1, e1⟩ := hst
    generalize hst' : addNew (List.range pin) (vs.flatMap fun p => idsA p.2) = st at hcl hn1 e1
    obtain ⟨hn2, m2, e2⟩ := reach_spec s.heap 8 st hn1
    have hin : ∀ x ∈ vs.flatMap (fun p => idsA p.2), x ∈ reach s.heap 8 st := fun x hx => mem_reach _ _ _ hn1 x (by rw [← hst']; exact mem_addNew _ _ _ (.inr hx))
    generalize hlive : reach s.heap 8 st = live at hcl hn2 e2 hin
    obtain ⟨g', ren1⟩ := r.good.renum hcl hn2
    have hlow : ∀ j, j < pin → live[j]? = some j := fun j hj => by
      rw [e2, e1, List.append_assoc, List.getElem?_append_left (by simpa using hj)]
      simp [hj]
    refine ⟨fun j => (live[j]?).bind β, g', fun j hj => ?_, fun t => ?_, r.defers, r.size, r.ext, fun j hj => ?_, ?_⟩
    · cases hl : live[j]? with
      | none => simp [hl] at hj
      | some id =>
        rcases Nat.lt_or_ge j live.length with hlt | hge
        · exact hlt
        · rw [List.getElem?_eq_none hge] at hl; cases hl
    · rcases find_assoc _ t _ rfl with e | hm
      · show RelV F w _ (assoc (vs.map fun p => (p.1, renA (fun id => (idxOf id live 0).getD 0) p.2)) t) _
        rw [e]; exact .any _
      · show RelV F w _ (assoc (vs.map fun p => (p.1, renA (fun id => (idxOf id live 0).getD 0) p.2)) t) _
        generalize assoc (vs.map fun p => (p.1, renA (fun id => (idxOf id live 0).getD 0) p.2)) t = v at hm
        obtain ⟨p, hp, e⟩ := List.mem_map.1 hm
        have hv := hp
        rw [← hvs] at hp
        obtain ⟨k, hk, rfl⟩ := List.mem_map.1 hp
        simp only [Prod.mk.injEq] at e
        obtain ⟨rfl, rfl⟩ := e
        exact (r.env k).ren (fun b hb => ⟨hb, rfl⟩) (fun id hid c hc => ren1 id (hin id (List.mem_flatMap.2 ⟨_, hv, hid⟩)) c hc)
    · show (live[j]?).bind β = β0 j
      rw [hlow j hj]; exact r.pins j hj
    · show pin ≤ live.length
      rw [e2, e1]; simp
  · cases h

theorem cleanO_rel {X : Cst} {N pin : Nat} {F0 : Nat → Prop} {w0 : World} {β0 : Nat → Option Conc} {s s' : St} {a : Act} (r : StRel X N pin F0 w0 β0 F w β s.env s.heap s.next a) {keep : Option (List Nat)} (h : cleanO pin keep s = some s') :
    ∃ β', StRel X N pin F0 w0 β0 F w β' s'.env s'.heap s'.next a := by
  cases keep with
  | none => cases h; exact ⟨β, r⟩
  | some k => exact clean_rel r h
end
end Go.LM
