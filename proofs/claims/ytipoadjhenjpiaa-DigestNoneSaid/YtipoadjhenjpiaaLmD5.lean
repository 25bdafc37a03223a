/- LM: a region in any order. -/
import Derived.Test.YtipoadjhenjpiaaLmD4
set_option linter.unusedVariables false
set_option linter.unusedSimpArgs false
namespace Go.LM

theorem yb {ops : Array Oper} {tmps : Array Value} {j g : Nat} {b : Bool} (hd : dstOf ops j = some g) (h : tmps.getD g undef = .bool b) : yielded ops tmps j = some b := by
  unfold yielded
  unfold dstOf at hd
  rw [hd]
  simp only [Option.bind_some]
  have : tmps[g]? = some (.bool b) := by
    rw [Array.getD_eq_getD_getElem?] at h
    cases hg : tmps[g]? with
    | none => rw [hg] at h; simp [undef] at h
    | some v => rw [hg] at h; simp at h; rw [h]
  rw [this]
theorem yn {ops : Array Oper} {tmps : Array Value} {j g : Nat} (hd : dstOf ops j = some g) (h : tmps.getD g undef = .tuple #[]) : yielded ops tmps j = none := by
  unfold yielded
  unfold dstOf at hd
  rw [hd]
  simp only [Option.bind_some]
  rw [Array.getD_eq_getD_getElem?] at h
  cases hg : tmps[g]? with
  | none => rfl
  | some v => rw [hg] at h; simp at h; rw [h]

theorem Good.congr {X F w β H H'} (g : Good X F w β H) (h : ∀ id, β id ≠ none → H' id = H id) : Good X F w β H' := by
  have e : ∀ {id c}, β id = some c → H' id = H id := fun {id c} hc => h id (by rw [hc]; intro e; cases e)
  exact ⟨fun id c hc => by rw [e hc]; exact g.hr id c hc, fun id c b hc ho => g.own id c b hc (by rw [← e hc]; exact ho),
    fun id id' c c' b hc hc' ho ho' => g.uniq id id' c c' b hc hc' (by rw [← e hc]; exact ho) (by rw [← e hc']; exact ho'), g.fsz, g.fext, g.fmono, g.frame, g.gsz, g.size, g.tame⟩

def on (listed : Array Bool) (k : Nat) : Prop := listed.getD k false = true

theorem on_lt {listed : Array Bool} {k : Nat} (h : on listed k) : k < listed.size := by
  unfold on at h
  rcases Nat.lt_or_ge k listed.size with h' | h'
  · exact h'
  · simp [Array.getElem?_eq_none h'] at h
theorem on_set {listed : Array Bool} {i k : Nat} (hi : i < listed.size) : on (listed.setIfInBounds i true) k ↔ k = i ∨ on listed k := by
  unfold on
  by_cases e : k = i
  · subst e; simp [hi]
  · have : (listed.setIfInBounds i true).getD k false = listed.getD k false := getD_set_ne false (Ne.symm e)
    rw [this]; simp [e]
theorem off_of {listed : Array Bool} {k : Nat} (h : listed.getD k true = false) : k < listed.size ∧ ¬ on listed k := by
  unfold on
  rcases Nat.lt_or_ge k listed.size with h' | h'
  · refine ⟨h', ?_⟩
    simp [h'] at h ⊢
    exact h
  · simp [Array.getElem?_eq_none h'] at h

structure Inv (cx : Cx) (ops : Array Oper) (base : Nat) (E : Nat → Nat → AV) (hs : Nat → Heap) (vs : Nat → AV) (fs : Nat → Bool) (X : Cst) (N pin : Nat) (F0 : Nat → Prop) (w0 : World) (β0 : Nat → Option Conc)
    (listed : Array Bool) (p : Nat) (F : Nat → Prop) (β : Nat → Option Conc) (a : Act) (w : World) : Prop where
  lsize : listed.size = ops.size
  down : ∀ (k : Nat) (o : Oper), ops[k]? = some o → on listed k → ∀ e ∈ o.after, Region.binds .any e = true → on listed e.on
  ple : p ≤ ops.size
  phard : ∀ q, q < p → fs q = true → on listed q
  pat : p < ops.size → fs p = true ∧ ¬ on listed p
  good : Good X F w β (hs p)
  dom : ∀ j, β j ≠ none → j < base ∨ ∃ k, on listed k ∧ base + k * W ≤ j ∧ j < base + k * W + W
  done : ∀ (k : Nat) (o : Oper) (s : Nat), ops[k]? = some o → on listed k → o.dst = some s → RelV F w β (vs k) (a.tmps.getD s undef)
  todo : ∀ s, (∀ (k : Nat) (o : Oper), ops[k]? = some o → on listed k → o.dst ≠ some s) → RelV F w β (E 0 s) (a.tmps.getD s undef)
  defers : a.defers = []
  size : N ≤ a.tmps.size
  ext : ∀ b, F0 b → F b ∧ cellsAt w b = cellsAt w0 b
  pins : ∀ j, j < pin → β j = β0 j

section
variable {cx : Cx} {ops : Array Oper} {base : Nat} {E : Nat → Nat → AV} {hs : Nat → Heap} {vs : Nat → AV} {fs : Nat → Bool} {X : Cst} {N pin : Nat} {F0 : Nat → Prop} {w0 : World} {β0 : Nat → Option Conc}

theorem put_get {a : Act} {d : Option Nat} {r : Value} {s : Nat} : ((a.put d r).tmps.getD s undef = a.tmps.getD s undef) ∨ d = some s := by
  cases d with
  | none => exact .inl rfl
  | some d =>
    by_cases e : d = s
    · exact .inr (by rw [e])
    · left
      simp only [Act.put, Array.getD_eq_getD_getElem?, Array.getElem?_setIfInBounds_ne e]
theorem put_self {a : Act} {s : Nat} {r : Value} (h : s < a.tmps.size) : (a.put (some s) r).tmps.getD s undef = r := by
  simp [Act.put, h]

/-- One operation more. -/
theorem Inv.next {listed : Array Bool} {p F β} {a : Act} {w : World} (d : Drawn cx.P ops fs) (I : Inv cx ops base E hs vs fs X N pin F0 w0 β0 listed p F β a w) (hN : ∀ o ∈ ops.toList, ∀ k, o.dst = some k → k < N) (hpin : pin ≤ base) {k : Nat} {o : Oper} (ho : ops[k]? = some o)
    (hoff : ¬ on listed k) (hready : ∀ e ∈ o.after, Region.binds .any e = true → on listed e.on) {p' : Nat} (ple : p' ≤ ops.size)
    (phard : ∀ q, q < p' → fs q = true → q = k ∨ on listed q) (pat : p' < ops.size → fs p' = true ∧ ¬ (p' = k ∨ on listed p'))
    {F' β'} {w' : World} {r : Value} (good : Good X F' w' β' (hs p')) (ex : Ext F w β F' w' β') (hdom : ∀ j, β' j ≠ none → β j ≠ none ∨ (base + k * W ≤ j ∧ j < base + k * W + W)) (rv : RelV F' w' β' (vs k) r) :
    Inv cx ops base E hs vs fs X N pin F0 w0 β0 (listed.setIfInBounds k true) p' F' β' (a.put o.dst r) w' := by
  have hk : k < listed.size := by rw [I.lsize]; exact (Array.getElem?_eq_some_iff.1 ho).1
  have hm : o ∈ ops.toList := Array.mem_toList_iff.2 (Array.mem_of_getElem? ho)
  refine ⟨by simp [I.lsize], fun k' o' ho' hon e he hb => ?_, ple, fun q hq hf => (on_set hk).2 (phard q hq hf), fun hp => ⟨(pat hp).1, fun h => (pat hp).2 ((on_set hk).1 h)⟩, good, fun j hj => ?_, fun k' o' s ho' hon hd => ?_, fun s hs' => ?_, by rw [put_defers']; exact I.defers, by rw [put_size]; exact I.size, fun b hb => ?_, fun j hj => ?_⟩
  · rcases (on_set hk).1 hon with rfl | hon
    · rw [ho] at ho'; cases ho'
      exact (on_set hk).2 (.inr (hready e he hb))
    · exact (on_set hk).2 (.inr (I.down k' o' ho' hon e he hb))
  · rcases hdom j hj with h | h
    · rcases I.dom j h with h | ⟨k', h1, h2⟩
      · exact .inl h
      · exact .inr ⟨k', (on_set hk).2 (.inr h1), h2⟩
    · exact .inr ⟨k, (on_set hk).2 (.inl rfl), h⟩
  · rcases (on_set hk).1 hon with rfl | hon
    · rw [ho] at ho'; cases ho'
      rw [hd, put_self (Nat.lt_of_lt_of_le (hN o hm s hd) I.size)]
      exact rv
    · rcases put_get (a := a) (d := o.dst) (r := r) (s := s) with h | h
      · rw [h]; exact (I.done k' o' s ho' hon hd).mono ex
      · exfalso
        rcases Nat.lt_trichotomy k k' with hlt | rfl | hlt
        · exact d.dst k k' o o' s hlt ho ho' h hd
        · exact hoff hon
        · exact d.dst k' k o' o s hlt ho' ho hd h
  · have h1 : o.dst ≠ some s := hs' k o ho ((on_set hk).2 (.inl rfl))
    rcases put_get (a := a) (d := o.dst) (r := r) (s := s) with h | h
    · rw [h]; exact (I.todo s fun k' o' ho' hon => hs' k' o' ho' ((on_set hk).2 (.inr hon))).mono ex
    · exact absurd h h1
  · obtain ⟨a1, a2⟩ := I.ext b hb
    obtain ⟨b1, b2⟩ := ex.f b a1
    exact ⟨b1, b2.trans a2⟩
  · rw [← I.pins j hj]
    cases hc : β j with
    | some c => exact ex.b j c hc
    | none =>
      cases hc' : β' j with
      | none => rfl
      | some c =>
        rcases hdom j (by rw [hc']; intro e; cases e) with h | h
        · exact absurd hc h
        · omega

theorem binds_on {listed : Array Bool} (down : ∀ (k : Nat) (o : Oper), ops[k]? = some o → on listed k → ∀ e ∈ o.after, Region.binds .any e = true → on listed e.on) : ∀ {n : Nat} {o : Oper} {j : Nat}, bindsIn ops n o j = true → (∀ e ∈ o.after, Region.binds .any e = true → on listed e.on) → on listed j
  | 0, o, j, h, hr => by
    obtain ⟨e, he, hb, rfl⟩ := bindsTo_mem h
    exact hr e he hb
  | n + 1, o, j, h, hr => by
    simp only [bindsIn, Bool.or_eq_true] at h
    rcases h with h | h
    · obtain ⟨e, he, hb, rfl⟩ := bindsTo_mem h
      exact hr e he hb
    · obtain ⟨e, he, h⟩ := List.any_eq_true.1 h
      simp only [Bool.and_eq_true] at h
      cases ho : ops[e.on]? with
      | none => rw [ho] at h; cases h.2
      | some o' =>
        rw [ho] at h
        have he' := hr e (Array.mem_toList_iff.1 he) h.1
        exact binds_on down h.2 (down e.on o' ho he')

theorem Inv.step (hrun : RunSound cx.P cx.run) (hent : RunEnters cx.P cx.run) {listed : Array Bool} {p F β} {a : Act} {w : World} (d : Drawn cx.P ops fs) (t : Trace cx ops base E hs vs fs) (h0 : ∀ j, base ≤ j → hs 0 j = none)
    (I : Inv cx ops base E hs vs fs X N pin F0 w0 β0 listed p F β a w) (hN : ∀ o ∈ ops.toList, ∀ k, o.dst = some k → k < N) (hpin : pin ≤ base) {k : Nat} {Q : Exit → Act → World → Prop} {K : Act → World → Prop}
    (hk : k ∈ Region.ready .any ops listed) (hK : ∀ a w, (∃ p F β, Inv cx ops base E hs vs fs X N pin F0 w0 β0 (listed.setIfInBounds k true) p F β a w) → K a w) : wpOp cx.P ops Q k K a w := by
  obtain ⟨hl, o, ho, hrd⟩ := mem_ready.1 hk
  obtain ⟨hks, hoff⟩ := off_of hl
  have hready : ∀ e ∈ o.after, Region.binds .any e = true → on listed e.on := hrd
  rw [I.lsize] at hks
  obtain ⟨hone, _⟩ := t.step k o ho
  have htell := t.env d k (by omega)
  -- what is read
  have hex : ∀ s, ∃ v, RelV F w β v (a.tmps.getD s undef) ∧ (s ∈ o.looksAt ops → v = E k s) := fun s => by
    by_cases hx : ∃ (k' : Nat) (o' : Oper), ops[k']? = some o' ∧ on listed k' ∧ o'.dst = some s
    · obtain ⟨k', o', h1, h2, h3⟩ := hx
      refine ⟨vs k', I.done k' o' s h1 h2 h3, fun hm => ?_⟩
      rcases Nat.lt_trichotomy k k' with hlt | rfl | hlt
      · exact absurd (binds_on I.down (d.anti k k' o o' s hlt ho h1 h3 hm) (I.down k' o' h1 h2)) hoff
      · exact absurd h2 hoff
      · rcases htell s with ⟨j, oj, hj, hoj, hdj, he⟩ | ⟨hno, _⟩
        · rcases Nat.lt_trichotomy j k' with h | rfl | h
          · exact absurd h3 (d.dst j k' oj o' s h hoj h1 hdj)
          · exact he.symm
          · exact absurd hdj (d.dst k' j o' oj s h h1 hoj h3)
        · exact absurd h3 (hno k' o' hlt h1)
    · refine ⟨E 0 s, I.todo s fun k' o' h1 h2 h3 => hx ⟨k', o', h1, h2, h3⟩, fun hm => ?_⟩
      rcases htell s with ⟨j, oj, hj, hoj, hdj, _⟩ | ⟨_, he⟩
      · exact absurd ⟨j, oj, hoj, binds_on I.down (d.use j k oj o s hj hoj ho hdj hm) hready, hdj⟩ hx
      · exact he.symm
  let ρ : Nat → AV := fun s => Classical.choose (hex s)
  have hρ : ∀ s, RelV F w β (ρ s) (a.tmps.getD s undef) := fun s => (Classical.choose_spec (hex s)).1
  have hρE : ∀ s, s ∈ o.looksAt ops → ρ s = E k s := fun s => (Classical.choose_spec (hex s)).2
  have hev : ∀ x, RelV F w β (evalO ρ x) (a.eval x) := fun x => EnvRel.eval (env := ρ) hρ x
  have hops : ∀ x ∈ o.op.operands, evalO (E k) x = evalO ρ x := fun x hx => by
    cases x with
    | tmp s =>
      refine (hρE s ?_).symm
      unfold Oper.looksAt
      exact List.mem_append_left _ (List.mem_filterMap.2 ⟨.tmp s, by simpa using hx, rfl⟩)
    | _ => rfl
  have hguard : ∀ {j : Nat} {want : Bool} {g : Nat}, o.guard = some (j, want) → dstOf ops j = some g → RelV F w β (E k g) (a.tmps.getD g undef) := fun {j want g} h1 h2 => by
    have : g ∈ o.looksAt ops := by
      unfold Oper.looksAt
      refine List.mem_append_right _ ?_
      rw [h1]
      unfold dstOf at h2
      simp only [h2]
      simp
    rw [← hρE g this]; exact hρ g
  unfold wpOp
  simp only [ho]
  rcases exOne_cases hone with ⟨hx, hg⟩ | ⟨⟨hv, hh, hf⟩, j, want, g, hg, hdj, hb⟩
  · have hw : Region.wanted o (yielded ops a.tmps) = true := by
      unfold Region.wanted
      rcases hg with hg | ⟨j, want, g, hg, hdj, hb⟩
      · rw [hg]
      · have hv := hguard hg hdj
        rw [hb] at hv
        have hy := yb (tmps := a.tmps) hdj hv.bool_inv
        simp [hg, hy]
    rw [if_pos hw]
    left
    rw [exOp_congr hops] at hx
    have fresh : ∀ j, base + k * W ≤ j → j < base + k * W + W → β j = none := fun j h1 h2 => by
      cases hc : β j with
      | none => rfl
      | some c =>
        exfalso
        rcases I.dom j (by rw [hc]; intro e; cases e) with h | ⟨k', h3, h4, h5⟩
        · omega
        · rcases Nat.lt_trichotomy k k' with hlt | rfl | hlt
          · have : (k + 1) * W ≤ k' * W := Nat.mul_le_mul_right _ hlt
            rw [Nat.add_mul, Nat.one_mul] at this
            omega
          · exact hoff h3
          · have : (k' + 1) * W ≤ k * W := Nat.mul_le_mul_right _ hlt
            rw [Nat.add_mul, Nat.one_mul] at this
            omega
    -- a step that stays in its heap
    have stay : exOp cx (evalO ρ) o.op o.type (hs p) (base + k * W) = some (vs k, hs p, false) → fs k = false → o.wp cx.P a w K Q := fun hx hf => by
      refine sim_op (d := o.dst) (p := o.pos) (af := o.after) (gd := o.guard) hrun hent I.good fresh hev hx a K Q fun r w' hl => ?_
      obtain ⟨F', β', g', ex, rv, hdom⟩ := hl
      refine hK _ _ ⟨p, F', β', I.next d hN hpin ho hoff hready I.ple (fun q h1 h2 => .inr (I.phard q h1 h2)) (fun hp => ⟨(I.pat hp).1, fun h => ?_⟩) g' ex hdom rv⟩
      rcases h with rfl | h
      · have := (I.pat hp).1; rw [hf] at this; cases this
      · exact (I.pat hp).2 h
    cases hp : pureOp cx.P o.op with
    | true =>
      obtain ⟨_, hf, hall⟩ := exOp_pure hp hx
      exact stay (hall (hs p)) hf
    | false =>
      cases hf : fs k with
      | false =>
        have hkp : k < p := by
          rcases Nat.lt_trichotomy k p with h | h | h
          · exact h
          · subst h
            have := (I.pat hks).1
            rw [hf] at this; cases this
          · have hpn : p < ops.size := by omega
            obtain ⟨q1, q2⟩ := I.pat hpn
            exact absurd (binds_on I.down (d.hard p k _ o h (Array.getElem?_eq_getElem hpn) ho (.inl ⟨q1, hp⟩)) hready) q2
        have hnone : ∀ q, k ≤ q → q < p → fs q = false := fun q h1 h2 => by
          cases hq : fs q with
          | false => rfl
          | true =>
            exfalso
            have hkq : k < q := by
              rcases Nat.lt_or_ge k q with h | h
              · exact h
              · have : k = q := by omega
                subst this; rw [hf] at hq; cases hq
            have hqn : q < ops.size := by have := I.ple; omega
            have hoq : ops[q]? = some ops[q] := Array.getElem?_eq_getElem hqn
            exact hoff (binds_on I.down (d.hard k q o _ hkq ho hoq (.inr ⟨hq, hp⟩)) (I.down q _ hoq (I.phard q h2 hq)))
        rw [hf] at hx
        have hkeep := t.keep (Nat.le_of_lt hkp) I.ple hnone
        have hkeep' := t.keep (a := k + 1) hkp I.ple (fun q h1 h2 => hnone q (by omega) h2)
        have hnil := t.heap_none h0 k (by omega)
        refine stay ((exOp_soft hx).2 (hs p) (fun id b hb => ?_) (fun j h1 h2 => ?_)) hf
        · rcases Nat.lt_or_ge id (base + k * W) with h | h
          · rw [hkeep id h]; exact hb
          · rw [hnil id h] at hb; cases hb
        · exact hkeep' j (by rw [Nat.add_mul, Nat.one_mul]; omega)
      | true =>
        have hkp : k = p := by
          rcases Nat.lt_trichotomy k p with h | h | h
          · exact absurd (I.phard k h hf) hoff
          · exact h
          · have hpn : p < ops.size := by omega
            obtain ⟨q1, q2⟩ := I.pat hpn
            exact absurd (binds_on I.down (d.hard p k _ o h (Array.getElem?_eq_getElem hpn) ho (.inl ⟨q1, hp⟩)) hready) q2
        subst hkp
        -- the next one that changes blocks
        obtain ⟨p', hp1, hp2, hp3, hp4⟩ : ∃ p', k + 1 ≤ p' ∧ p' ≤ ops.size ∧ (∀ q, k + 1 ≤ q → q < p' → fs q = false) ∧ (p' < ops.size → fs p' = true) := by
          have : ∀ m, ∀ b, b + m = ops.size → ∃ p', b ≤ p' ∧ p' ≤ ops.size ∧ (∀ q, b ≤ q → q < p' → fs q = false) ∧ (p' < ops.size → fs p' = true) := by
            intro m
            induction m with
            | zero => intro b hb; exact ⟨b, by omega, by omega, fun q h1 h2 => by omega, fun h => by omega⟩
            | succ m ih =>
              intro b hb
              cases hfb : fs b with
              | true => exact ⟨b, by omega, by omega, fun q h1 h2 => by omega, fun _ => hfb⟩
              | false =>
                obtain ⟨p', q1, q2, q3, q4⟩ := ih (b + 1) (by omega)
                refine ⟨p', by omega, q2, fun q h1 h2 => ?_, q4⟩
                by_cases e : q = b
                · rw [e]; exact hfb
                · exact q3 q (by omega) h2
          exact this (ops.size - (k + 1)) (k + 1) (by omega)
        have hpure : ∀ q, q < ops.size → fs q = true → ∃ oq, ops[q]? = some oq ∧ pureOp cx.P oq.op = false := fun q hq hfq => by
          have hoq : ops[q]? = some ops[q] := Array.getElem?_eq_getElem hq
          refine ⟨_, hoq, ?_⟩
          cases hpq : pureOp cx.P (ops[q]).op with
          | false => rfl
          | true =>
            exfalso
            obtain ⟨hq1, _⟩ := t.step q _ hoq
            rcases exOne_cases hq1 with ⟨h1, _⟩ | ⟨⟨_, _, h1⟩, _⟩
            · have := (exOp_pure hpq h1).2.1
              rw [hfq] at this; cases this
            · rw [hfq] at h1; cases h1
        have hlater : ∀ q, k < q → q < ops.size → fs q = true → ¬ on listed q := fun q h1 h2 h3 hon => by
          obtain ⟨oq, hoq, hpq⟩ := hpure q h2 h3
          exact hoff (binds_on I.down (d.hard k q o oq h1 ho hoq (.inl ⟨hf, hpq⟩)) (I.down q oq hoq hon))
        have hkeep := t.keep (a := k + 1) hp1 hp2 hp3
        refine sim_op (d := o.dst) (p := o.pos) (af := o.after) (gd := o.guard) hrun hent I.good fresh hev hx a K Q fun r w' hl => ?_
        obtain ⟨F', β', g', ex, rv, hdom⟩ := hl
        have g2 : Good X F' w' β' (hs p') := g'.congr fun id hid => by
          cases hc : β' id with
          | none => exact absurd hc hid
          | some c =>
            obtain ⟨blk, hb, _⟩ := g'.hr id c hc
            have hnil := t.heap_none h0 (k + 1) (by omega)
            rcases Nat.lt_or_ge id (base + (k + 1) * W) with h | h
            · exact hkeep id h
            · rw [hnil id h] at hb; cases hb
        refine hK _ _ ⟨p', F', β', I.next d hN hpin ho hoff hready hp2 (fun q h1 h2 => ?_) (fun h => ⟨hp4 h, fun hh => ?_⟩) g2 ex hdom rv⟩
        · rcases Nat.lt_trichotomy q k with h | h | h
          · exact .inr (I.phard q h h2)
          · exact .inl h
          · have := hp3 q h h1
            rw [h2] at this; cases this
        · rcases hh with e | hh
          · omega
          · exact hlater p' (by omega) h (hp4 h) hh
  · have hw : Region.wanted o (yielded ops a.tmps) = false := by
      unfold Region.wanted
      have hv := hguard hg hdj
      rcases hb with hb | hb
      · rw [hb] at hv
        have hy := yb (tmps := a.tmps) hdj hv.bool_inv
        rw [hg]; simp only [hy]
        cases want <;> rfl
      · rw [hb] at hv
        obtain ⟨us, e1, e2⟩ := hv.tup_inv
        cases e2
        have hy := yn (tmps := a.tmps) hdj e1
        rw [hg]; simp only [hy]
        rfl
    rw [hw]
    simp only [Bool.false_eq_true, if_false]
    refine hK _ _ ⟨p, F, β, I.next d hN hpin ho hoff hready I.ple (fun q h1 h2 => .inr (I.phard q h1 h2)) (fun hp => ⟨(I.pat hp).1, fun h => ?_⟩) I.good .refl (fun j hj => .inl hj) (by rw [hv]; exact undef_rel)⟩
    rcases h with rfl | h
    · have := (I.pat hp).1; rw [hf] at this; cases this
    · exact (I.pat hp).2 h

theorem filter_lt {p q : Nat → Bool} : ∀ (l : List Nat), (∀ x, q x = true → p x = true) → (∃ x ∈ l, p x = true ∧ q x = false) → (l.filter q).length < (l.filter p).length
  | [], _, ⟨x, hx, _⟩ => by cases hx
  | y :: l, h, ⟨x, hx, h1, h2⟩ => by
    have le : ∀ l : List Nat, (l.filter q).length ≤ (l.filter p).length := fun l => by
      induction l with
      | nil => simp
      | cons z l ih =>
        simp only [List.filter_cons]
        cases hq : q z with
        | true => rw [h z hq]; simp; exact ih
        | false => cases p z <;> simp <;> omega
    simp only [List.filter_cons]
    rcases List.mem_cons.1 hx with rfl | hx
    · rw [h1, h2]
      have := le l
      simp; omega
    · have := filter_lt l h ⟨x, hx, h1, h2⟩
      cases hq : q y with
      | true => rw [h y hq]; simp; exact this
      | false => cases p y <;> simp <;> omega

theorem any_sound (hrun : RunSound cx.P cx.run) (hent : RunEnters cx.P cx.run) (d : Drawn cx.P ops fs) (t : Trace cx ops base E hs vs fs) (h0 : ∀ j, base ≤ j → hs 0 j = none)
    (hN : ∀ o ∈ ops.toList, ∀ k, o.dst = some k → k < N) (hpin : pin ≤ base) {Q : Exit → Act → World → Prop} (hQ : ∀ a w, (∃ F β, Good X F w β (hs ops.size) ∧ (∀ j, β j ≠ none → j < base + ops.size * W) ∧ EnvRel F w β (E ops.size) a ∧ a.defers = [] ∧ N ≤ a.tmps.size ∧ (∀ b, F0 b → F b ∧ cellsAt w b = cellsAt w0 b) ∧ (∀ j, j < pin → β j = β0 j)) → Q .normal a w) :
    ∀ (fuel : Nat) (listed : Array Bool) (a : Act) (w : World), (∃ p F β, Inv cx ops base E hs vs fs X N pin F0 w0 β0 listed p F β a w) → ((List.range ops.size).filter fun k => !listed.getD k false).length ≤ fuel → wpAny cx.P .any ops Q fuel listed a w := by
  -- all done
  have fin : ∀ (listed : Array Bool) (a : Act) (w : World), (∃ p F β, Inv cx ops base E hs vs fs X N pin F0 w0 β0 listed p F β a w) → Region.ready .any ops listed = [] → Q .normal a w := by
    intro listed a w ⟨p, F, β, I⟩ hr
    have all : ∀ k, k < ops.size → on listed k := by
      intro k
      induction k using Nat.strongRecOn with
      | _ k ih =>
        intro hk
        by_cases h : on listed k
        · exact h
        · exfalso
          have : k ∈ Region.ready .any ops listed := by
            refine mem_ready.2 ⟨?_, ops[k], Array.getElem?_eq_getElem hk, fun e he hb => ?_⟩
            · have hks : k < listed.size := by rw [I.lsize]; exact hk
              unfold on at h
              simp [hks] at h ⊢
              exact h
            · have hlt := d.back k _ (Array.getElem?_eq_getElem hk) e he hb
              exact ih e.on hlt (by omega)
          rw [hr] at this; cases this
    have hp : p = ops.size := by
      have := I.ple
      rcases Nat.lt_or_ge p ops.size with h | h
      · exact absurd (all p h) (I.pat h).2
      · omega
    subst hp
    refine hQ a w ⟨F, β, I.good, fun j hj => ?_, fun s => ?_, I.defers, I.size, I.ext, I.pins⟩
    · cases hc : β j with
      | none => exact absurd hc hj
      | some c =>
        obtain ⟨blk, hb, _⟩ := I.good.hr j c hc
        have hnil := t.heap_none h0 ops.size (Nat.le_refl _)
        rcases Nat.lt_or_ge j (base + ops.size * W) with h | h
        · exact h
        · rw [hnil j h] at hb; cases hb
    · rcases t.env d ops.size (Nat.le_refl _) s with ⟨j, o, h1, h2, h3, h4⟩ | ⟨h1, h2⟩
      · rw [h4]; exact I.done j o s h2 (all j h1) h3
      · rw [h2]; exact I.todo s fun k o hk _ => h1 k o (Array.getElem?_eq_some_iff.1 hk).1 hk
  intro fuel
  induction fuel with
  | zero =>
    intro listed a w hI hle
    have hr : Region.ready .any ops listed = [] := by
      cases hr : Region.ready .any ops listed with
      | nil => rfl
      | cons k l =>
        exfalso
        have hk : k ∈ Region.ready .any ops listed := by rw [hr]; simp
        obtain ⟨hl, o, ho, _⟩ := mem_ready.1 hk
        have hoff := (off_of hl).2
        have hks : k < ops.size := (Array.getElem?_eq_some_iff.1 ho).1
        have : k ∈ (List.range ops.size).filter fun k => !listed.getD k false := List.mem_filter.2 ⟨List.mem_range.2 hks, by unfold on at hoff; simpa using hoff⟩
        have hnil := List.eq_nil_of_length_eq_zero (Nat.le_zero.1 hle)
        rw [hnil] at this
        cases this
    exact ⟨hr, fin listed a w hI hr⟩
  | succ fuel ih =>
    intro listed a w hI hle
    refine ⟨fun hr => fin listed a w hI hr, fun k hk => ?_⟩
    obtain ⟨hl, o, ho, _⟩ := mem_ready.1 hk
    obtain ⟨hks, hoff⟩ := off_of hl
    have hks' : k < ops.size := (Array.getElem?_eq_some_iff.1 ho).1
    obtain ⟨p, F, β, I⟩ := hI
    refine I.step hrun hent d t h0 hN hpin hk fun a w hI' => ih _ a w hI' ?_
    have := filter_lt (p := fun k => !listed.getD k false) (q := fun j => !(listed.setIfInBounds k true).getD j false) (List.range ops.size) (fun x hx => by
      simp only [Bool.not_eq_true'] at hx ⊢
      cases hg : listed.getD x false with
      | false => rfl
      | true => have := getD_set_true (i := k) hg; rw [hx] at this; cases this) ⟨k, List.mem_range.2 hks', by unfold on at hoff; simpa using hoff, by
        have := (on_set (k := k) hks).2 (.inl rfl)
        unfold on at this
        simp [this]⟩
    omega

/-- The region. -/
theorem draw_region (hrun : RunSound cx.P cx.run) (hent : RunEnters cx.P cx.run) {id : Nat} {env env' : Nat → AV} {h h' : Heap} {fl : List Bool} {next : Nat} (he : exOpsF cx ops next ops.toList 0 env (trimH next h) = some (env', h', fl)) (hd : drawOK cx.P ops fl = true)
    (hN : ∀ o ∈ ops.toList, ∀ k, o.dst = some k → k < N) {Q : Exit → Act → World → Prop} {F : Nat → Prop} {β : Nat → Option Conc} {a : Act} {w : World} (r : StRel X N pin F0 w0 β0 F w β env h next a)
    (hQ : ∀ a w, (∃ F β, StRel X N pin F0 w0 β0 F w β env' h' (next + ops.size * W) a) → Q .normal a w) : (Code.region id ops true).wp cx.P Q a w := by
  obtain ⟨hl, E, hs, vs, e1, e2, e3, e4, t⟩ := trace_of he
  simp only [drawOK, Bool.and_eq_true] at hd
  have d := drawn_of hl hd.2
  have h0 : ∀ j, next ≤ j → hs 0 j = none := fun j hj => by rw [e2]; unfold trimH; rw [if_neg (by omega)]
  refine wp_region_any hd.1 ?_
  refine any_sound (X := X) (N := N) (pin := pin) (F0 := F0) (w0 := w0) (β0 := β0) hrun hent d t h0 hN r.pinle (fun a w ⟨F, β, g, hdm, hen, hdf, hsz, hext, hpins⟩ => hQ a w ⟨F, β, by rw [e4] at g; exact g, hdm, by rw [e3] at hen; exact hen, hdf, hsz, hext, hpins, by have := r.pinle; omega⟩) ops.size _ a _ ?_ ?_
  · have hrep : ∀ k, ¬ on (Array.replicate ops.size false) k := fun k hk => by
      have hlt := on_lt hk
      unfold on at hk
      simp at hlt
      simp [hlt] at hk
    obtain ⟨p, hp2, hp3, hp4⟩ : ∃ p', p' ≤ ops.size ∧ (∀ q, q < p' → (fl.getD q false) = false) ∧ (p' < ops.size → (fl.getD p' false) = true) := by
      have : ∀ m, ∀ b, b + m = ops.size → ∃ p', b ≤ p' ∧ p' ≤ ops.size ∧ (∀ q, b ≤ q → q < p' → (fl.getD q false) = false) ∧ (p' < ops.size → (fl.getD p' false) = true) := by
        intro m
        induction m with
        | zero => intro b hb; exact ⟨b, by omega, by omega, fun q h1 h2 => by omega, fun h => by omega⟩
        | succ m ih =>
          intro b hb
          cases hfb : fl.getD b false with
          | true => exact ⟨b, by omega, by omega, fun q h1 h2 => by omega, fun _ => hfb⟩
          | false =>
            obtain ⟨p', q1, q2, q3, q4⟩ := ih (b + 1) (by omega)
            refine ⟨p', by omega, q2, fun q h1 h2 => ?_, q4⟩
            by_cases e : q = b
            · rw [e]; exact hfb
            · exact q3 q (by omega) h2
      obtain ⟨p', _, q2, q3, q4⟩ := this ops.size 0 (by omega)
      exact ⟨p', q2, fun q hq => q3 q (by omega) hq, q4⟩
    have gs : Good X F { w with drawn := w.drawn + 1 } β (hs 0) := by
      rw [e2]
      refine (r.good.same (w' := { w with drawn := w.drawn + 1 }) rfl ⟨rfl, rfl⟩).congr fun id hid => ?_
      unfold trimH
      rw [if_pos (r.dom id hid)]
    have hkeep := t.keep (a := 0) (b := p) (by omega) hp2 (fun q _ h => hp3 q h)
    have gp : Good X F { w with drawn := w.drawn + 1 } β (hs p) := gs.congr fun id hid => hkeep id (by have := r.dom id hid; omega)
    refine ⟨p, F, β, by simp, fun k o _ hk => absurd hk (hrep k), hp2, fun q hq hf => (by rw [hp3 q hq] at hf; cases hf), fun h => ⟨hp4 h, hrep p⟩, gp, fun j hj => .inl (r.dom j hj), fun k o s _ hk => absurd hk (hrep k), fun s _ => ?_, r.defers, r.size, fun b hb => r.ext b hb, r.pins⟩
    rw [e1]
    refine RelV.same ?_ (r.env s)
    rfl
  · refine Nat.le_trans (List.length_filter_le _ _) (by simp)
end
end Go.LM
