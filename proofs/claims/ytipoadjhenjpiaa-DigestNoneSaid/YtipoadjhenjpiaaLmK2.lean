/- LM: regions and code. -/
import Derived.Test.YtipoadjhenjpiaaLmD5
set_option linter.unusedVariables false
set_option linter.unusedSimpArgs false
namespace Go.LM

theorem yielded_bool {ops : Array Oper} {tmps : Array Value} {j g : Nat} {b : Bool} (hd : dstOf ops j = some g) (h : tmps.getD g undef = .bool b) : yielded ops tmps j = some b := by
  unfold yielded
  unfold dstOf at hd
  rw [hd]
  simp only [Option.bind_some]
  have : tmps[g]? = some (.bool b) := by
    rw [Array.getD_eq_getD_getElem?] at h
    cases hg : tmps[g]? with
    | none => rw [hg] at h; simp [undef] at h
    | some v => rw [hg] at h; simp at h; rw [h]
  rw [this]

theorem yielded_none {ops : Array Oper} {tmps : Array Value} {j g : Nat} (hd : dstOf ops j = some g) (h : tmps.getD g undef = .tuple #[]) : yielded ops tmps j = none := by
  unfold yielded
  unfold dstOf at hd
  rw [hd]
  simp only [Option.bind_some]
  rw [Array.getD_eq_getD_getElem?] at h
  cases hg : tmps[g]? with
  | none => rfl
  | some v => rw [hg] at h; simp at h; rw [h]

section
variable {cx : Cx} {X : Cst} {N pin : Nat} {F0 : Nat → Prop} {w0 : World} {β0 : Nat → Option Conc}

/-- A state holds of a world. -/
def Rel (X : Cst) (N pin : Nat) (F0 : Nat → Prop) (w0 : World) (β0 : Nat → Option Conc) (env : Nat → AV) (h : Heap) (next : Nat) (a : Act) (w : World) : Prop :=
  ∃ F β, StRel X N pin F0 w0 β0 F w β env h next a

theorem stRel_put {F w β env h next} {a : Act} (r : StRel X N pin F0 w0 β0 F w β env h next a) {d : Option Nat} {v : AV} {u : Value} (hd : ∀ k, d = some k → k < N) (hv : RelV F w β v u) :
    StRel X N pin F0 w0 β0 F w β (put env d v) h next (a.put d u) :=
  ⟨r.good, r.dom, r.env.put (fun k hk => Nat.lt_of_lt_of_le (hd k hk) r.size) hv, by rw [put_defers']; exact r.defers, by rw [put_size]; exact r.size, r.ext, r.pins, r.pinle⟩

theorem stRel_same {F w β env h next} {a : Act} (r : StRel X N pin F0 w0 β0 F w β env h next a) {g : Nat} {v : AV} (e : env g = v) :
    StRel X N pin F0 w0 β0 F w β (put env (some g) v) h next a :=
  { r with env := r.env.same e }

theorem stRel_next {F w β env h next next'} {a : Act} (r : StRel X N pin F0 w0 β0 F w β env h next a) (hn : next ≤ next') :
    StRel X N pin F0 w0 β0 F w β env h next' a :=
  { r with dom := fun j hj => Nat.lt_of_lt_of_le (r.dom j hj) hn, pinle := Nat.le_trans r.pinle hn }

/-- Behind an operation. -/
theorem stRel_op {F w β env h next} {a : Act} (r : StRel X N pin F0 w0 β0 F w β env h next a) {h' : Heap} {v : AV} {u : Value} {w' : World} (l : LeftW X F w β h' next v u w') {d : Option Nat} (hd : ∀ k, d = some k → k < N) :
    ∃ F' β', StRel X N pin F0 w0 β0 F' w' β' (put env d v) h' (next + W) (a.put d u) := by
  obtain ⟨F', β', g', ex, rv, hdom⟩ := l
  refine ⟨F', β', g', fun j hj => ?_, (r.env.mono ex).put (fun k hk => Nat.lt_of_lt_of_le (hd k hk) r.size) rv, by rw [put_defers']; exact r.defers, by rw [put_size]; exact r.size, fun b hb => ?_, fun j hj => ?_, ?_⟩
  · rcases hdom j hj with h | h
    · have := r.dom j h; omega
    · exact h.2
  · obtain ⟨a1, a2⟩ := r.ext b hb
    obtain ⟨b1, b2⟩ := ex.f b a1
    exact ⟨b1, b2.trans a2⟩
  · rw [← r.pins j hj]
    cases hc : β j with
    | some c => exact ex.b j c hc
    | none =>
      cases hc' : β' j with
      | none => rfl
      | some c =>
        rcases hdom j (by rw [hc']; intro e; cases e) with h | h
        · exact absurd hc h
        · have := r.pinle; omega
  · have := r.pinle; omega

theorem exOps_sound (hrun : RunSound cx.P cx.run) (hent : RunEnters cx.P cx.run) {ops : Array Oper} (hN : ∀ o ∈ ops.toList, ∀ k, o.dst = some k → k < N) {base : Nat} {Q : Exit → Act → World → Prop} {env' : Nat → AV} {h' : Heap}
    (hQ : ∀ a w, Rel X N pin F0 w0 β0 env' h' (base + ops.size * W) a w → Q .normal a w) :
    ∀ (l : List Oper) (k : Nat) (env : Nat → AV) (h : Heap), k ≤ ops.size → (∀ i, l[i]? = ops[k + i]?) → exOps cx ops base l k env h = some (env', h') →
      ∀ a w, Rel X N pin F0 w0 β0 env h (base + k * W) a w → wpOps cx.P ops Q (List.range' k l.length) a w
  | [], k, env, h, hk, hl, he, a, w, r => by
    simp only [exOps, Option.some.injEq, Prod.mk.injEq] at he
    obtain ⟨rfl, rfl⟩ := he
    simp only [List.length_nil, List.range'_zero, wpOps]
    obtain ⟨F, β, r⟩ := r
    refine hQ a w ⟨F, β, stRel_next r ?_⟩
    have : k * W ≤ ops.size * W := Nat.mul_le_mul_right _ hk
    omega
  | o :: l, k, env, h, hk, hl, he, a, w, r => by
    have ho : ops[k]? = some o := by have := hl 0; simpa using this.symm
    have hl' : ∀ i, l[i]? = ops[k + 1 + i]? := fun i => by
      have := hl (i + 1)
      rw [show k + 1 + i = k + (i + 1) by omega, ← this]; simp
    have hm : o ∈ ops.toList := by
      have := Array.mem_of_getElem? ho
      exact Array.mem_toList_iff.2 this
    have hd : ∀ k, o.dst = some k → k < N := hN o hm
    have hk' : k + 1 ≤ ops.size := by
      rcases Nat.lt_or_ge k ops.size with h | h
      · omega
      · simp [Array.getElem?_eq_none h] at ho
    have ih := fun env h => exOps_sound hrun hent hN hQ l (k + 1) env h hk'
    obtain ⟨F, β, r⟩ := r
    have doIt : ∀ env : Nat → AV, StRel X N pin F0 w0 β0 F w β env h (base + k * W) a →
        ((exOp cx (evalO env) o.op o.type h (base + k * W)).bind fun q => exOps cx ops base l (k + 1) (put env o.dst q.1) q.2.1) = some (env', h') →
        o.wp cx.P a w (wpOps cx.P ops Q (List.range' (k + 1) l.length)) Q := by
      intro env r he
      cases hx : exOp cx (evalO env) o.op o.type h (base + k * W) with
      | none => rw [hx] at he; cases he
      | some q =>
        obtain ⟨v, h1, hd1⟩ := q
        rw [hx] at he
        simp only [Option.bind_some] at he
        have fresh : ∀ j, base + k * W ≤ j → j < base + k * W + W → β j = none := fun j hj _ => by
          cases hc : β j with
          | none => rfl
          | some c => have := r.dom j (by rw [hc]; intro e; cases e); omega
        have fine := sim_op (d := o.dst) (p := o.pos) (af := o.after) (gd := o.guard) hrun hent r.good fresh (fun x => r.env.eval x) hx
        refine fine a _ Q fun u w' hl => ?_
        obtain ⟨F', β', r'⟩ := stRel_op r hl (d := o.dst) hd
        exact ih _ _ hl' he _ _ ⟨F', β', by rw [Nat.add_mul, Nat.one_mul, ← Nat.add_assoc]; exact r'⟩
    have skip : ∀ env : Nat → AV, StRel X N pin F0 w0 β0 F w β env h (base + k * W) a →
        exOps cx ops base l (k + 1) (put env o.dst (.tup [])) h = some (env', h') → wpOps cx.P ops Q (List.range' (k + 1) l.length) (a.put o.dst undef) w := by
      intro env r he
      refine ih _ _ hl' he _ _ ⟨F, β, stRel_next (stRel_put r hd undef_rel) ?_⟩
      have : k * W ≤ (k + 1) * W := Nat.mul_le_mul_right _ (by omega)
      omega
    simp only [List.length_cons, List.range'_succ, wpOps, ho]
    simp only [exOps] at he
    cases hg : o.guard with
    | none =>
      rw [hg] at he
      simp only at he
      have hw : Region.wanted o (yielded ops a.tmps) = true := by unfold Region.wanted; rw [hg]
      rw [if_pos hw]
      exact .inl (doIt env r he)
    | some jw =>
      obtain ⟨j, want⟩ := jw
      rw [hg] at he
      simp only at he
      cases hdj : dstOf ops j with
      | none => rw [hdj] at he; cases he
      | some g =>
        rw [hdj] at he
        simp only at he
        have hwant : Region.wanted o (yielded ops a.tmps) = (yielded ops a.tmps j == some want) := by unfold Region.wanted; rw [hg]
        split at he
        · rename_i b hb
          have hv := r.env g
          rw [hb] at hv
          have hy := yielded_bool hdj hv.bool_inv
          rw [hwant, hy]
          split at he
          · simp only [beq_self_eq_true, if_true]
            exact .inl (doIt _ (stRel_same r hb) he)
          · simp only [beq_self_eq_true, if_true]
            exact .inl (doIt _ (stRel_same r hb) he)
          · rw [if_neg (by simp)]
            exact skip _ (stRel_same r hb) he
          · rw [if_neg (by simp)]
            exact skip _ (stRel_same r hb) he
        · rename_i hb
          have hv := r.env g
          rw [hb] at hv
          obtain ⟨vs, e1, e2⟩ := hv.tup_inv
          cases e2
          have hy := yielded_none hdj e1
          rw [hwant, hy, if_neg (by simp)]
          exact skip _ r he
        · cases he

/-- What a stretch of code gives. -/
def Post (X : Cst) (N pin : Nat) (F0 : Nat → Prop) (w0 : World) (β0 : Nat → Option Conc) (e : Exit) (s : St) : Exit → Act → World → Prop :=
  fun e' a w => e' = e ∧ Rel X N pin F0 w0 β0 s.env s.heap s.next a w

theorem around_sound {ann : Ann} {s : St} {f : St → Out} {e : Exit} {s' : St} {c : Code} (h : around pin ann s f = some (e, s'))
    (body : ∀ s e s', f s = some (e, s') → ∀ a w, Rel X N pin F0 w0 β0 s.env s.heap s.next a w → c.wp cx.P (Post X N pin F0 w0 β0 e s') a w) :
    ∀ a w, Rel X N pin F0 w0 β0 s.env s.heap s.next a w → c.wp cx.P (Post X N pin F0 w0 β0 e s') a w := by
  intro a w ⟨F, β, r⟩
  unfold around at h
  cases h1 : cleanO pin ann.pre s with
  | none => rw [h1] at h; cases h
  | some s1 =>
    rw [h1] at h
    simp only at h
    obtain ⟨β1, r1⟩ := cleanO_rel r h1
    cases h2 : f s1 with
    | none => rw [h2] at h; cases h
    | some q =>
      obtain ⟨e2, s2⟩ := q
      rw [h2] at h
      have hb := body s1 e2 s2 h2 a w ⟨F, β1, r1⟩
      refine wp_mono hb fun e' a' w' hp => ?_
      obtain ⟨rfl, F', β', r'⟩ := hp
      cases e' with
      | normal =>
        simp only [thenN] at h
        cases h3 : cleanO pin ann.post s2 with
        | none => rw [h3] at h; cases h
        | some s3 =>
          rw [h3] at h
          cases h
          obtain ⟨β3, r3⟩ := cleanO_rel r' h3
          exact ⟨rfl, F', β3, r3⟩
      | _ =>
        simp only [thenN, Option.some.injEq, Prod.mk.injEq] at h
        obtain ⟨rfl, rfl⟩ := h
        exact ⟨rfl, F', β', r'⟩

theorem least {p : Nat → Prop} (h : ∃ n, p n) : ∃ n, p n ∧ ∀ m, p m → n ≤ m := by
  obtain ⟨n, hn⟩ := h
  induction n using Nat.strongRecOn with
  | _ n ih =>
    by_cases hx : ∃ m, m < n ∧ p m
    · obtain ⟨m, h1, h2⟩ := hx; exact ih m h1 h2
    · refine ⟨n, hn, fun m hm => ?_⟩
      rcases Nat.lt_or_ge m n with h | h
      · exact absurd ⟨m, h, hm⟩ hx
      · exact h

open Classical in
noncomputable def leastOf (p : Nat → Prop) : Nat := if h : ∃ n, p n then Classical.choose (least h) else 0
theorem leastOf_spec {p : Nat → Prop} (h : ∃ n, p n) : p (leastOf p) ∧ ∀ m, p m → leastOf p ≤ m := by
  unfold leastOf
  rw [dif_pos h]
  exact Classical.choose_spec (least h)

theorem loop_sound {x : Code} {f : St → Out} {e : Exit} {s' : St} (body : ∀ s e s', f s = some (e, s') → ∀ a w, Rel X N pin F0 w0 β0 s.env s.heap s.next a w → x.wp cx.P (Post X N pin F0 w0 β0 e s') a w)
    {n : Nat} {s : St} (h : iter n f s = some (e, s')) : ∀ a w, Rel X N pin F0 w0 β0 s.env s.heap s.next a w → (Code.loop x).wp cx.P (Post X N pin F0 w0 β0 e s') a w := by
  intro a w r
  let J : Act → World → Nat → Prop := fun a w n => ∃ s, iter n f s = some (e, s') ∧ Rel X N pin F0 w0 β0 s.env s.heap s.next a w
  let μ : Act → World → Nat := fun a w => leastOf (J a w)
  have hμ : ∀ a w, (∃ n, J a w n) → J a w (μ a w) ∧ ∀ m, J a w m → μ a w ≤ m := fun a w h => leastOf_spec h
  refine wp_loop (fun a w => ∃ n, J a w n) μ ⟨n, s, h, r⟩ fun a w hI => ?_
  obtain ⟨⟨s1, h1, r1⟩, hmin⟩ := hμ a w hI
  cases hm : μ a w with
  | zero => rw [hm] at h1; cases h1
  | succ k =>
    rw [hm] at h1
    simp only [iter] at h1
    cases h2 : f s1 with
    | none => rw [h2] at h1; cases h1
    | some q =>
      obtain ⟨e2, s2⟩ := q
      rw [h2] at h1
      refine wp_mono (body s1 e2 s2 h2 a w r1) fun e' a' w' hp => ?_
      obtain ⟨rfl, r'⟩ := hp
      cases e' with
      | normal =>
        simp only at h1
        have hJ : J a' w' k := ⟨s2, h1, r'⟩
        have := (hμ a' w' ⟨k, hJ⟩).2 k hJ
        exact ⟨⟨k, hJ⟩, by omega⟩
      | _ =>
        simp only [Option.some.injEq, Prod.mk.injEq] at h1
        obtain ⟨rfl, rfl⟩ := h1
        exact ⟨rfl, r'⟩

theorem code_sound (hrun : RunSound cx.P cx.run) (hent : RunEnters cx.P cx.run) (n : Nat) : ∀ (c : Code) (ann : Ann) (s : St) (e : Exit) (s' : St), exCode cx n pin c ann s = some (e, s') → dstOK N c = true →
    ∀ a w, Rel X N pin F0 w0 β0 s.env s.heap s.next a w → c.wp cx.P (Post X N pin F0 w0 β0 e s') a w
  | .skip, ann, s, e, s', h, hd => by
    simp only [exCode] at h
    refine around_sound h fun s e s' h a w r => ?_
    cases h
    exact wp_skip ⟨rfl, r⟩
  | .region id ops d, ann, s, e, s', h, hd => by
    cases d with
    | true =>
      simp only [exCode] at h
      refine around_sound h fun s e s' h a w r => ?_
      cases hx : exOpsF cx ops s.next ops.toList 0 s.env (trimH s.next s.heap) with
      | none => rw [hx] at h; cases h
      | some q =>
        obtain ⟨env, h2, fl⟩ := q
        rw [hx] at h
        simp only at h
        split at h
        · rename_i hdr
          cases h
          obtain ⟨F, β, r⟩ := r
          have hN : ∀ o ∈ ops.toList, ∀ k, o.dst = some k → k < N := fun o ho k hk => by
            simp only [dstOK] at hd
            have := List.all_eq_true.1 hd o ho
            rw [hk] at this
            simpa using this
          exact draw_region hrun hent hx hdr hN r fun a w h => ⟨rfl, h⟩
        · cases h
    | false =>
    simp only [exCode] at h
    refine around_sound h fun s e s' h a w r => ?_
    cases hx : exOps cx ops s.next ops.toList 0 s.env s.heap with
    | none => rw [hx] at h; cases h
    | some q =>
      rw [hx] at h
      cases h
      refine wp_region ?_
      have hN : ∀ o ∈ ops.toList, ∀ k, o.dst = some k → k < N := fun o ho k hk => by
        simp only [dstOK] at hd
        have := List.all_eq_true.1 hd o ho
        rw [hk] at this
        simpa using this
      have := exOps_sound (Q := Post X N pin F0 w0 β0 .normal ⟨q.1, q.2, s.next + ops.size * W⟩) hrun hent hN (base := s.next) (env' := q.1) (h' := q.2) (fun a w r => ⟨rfl, r⟩) ops.toList 0 s.env s.heap (Nat.zero_le _) (fun i => by simp) hx a w (by simpa using r)
      rw [List.range_eq_range']
      simpa using this
  | .seq x y, ann, s, e, s', h, hd => by
    simp only [exCode] at h
    simp only [dstOK, Bool.and_eq_true] at hd
    refine around_sound h fun s e s' h a w r => ?_
    cases hx : exCode cx n pin x ann.l s with
    | none => rw [hx] at h; cases h
    | some q =>
      obtain ⟨e1, s1⟩ := q
      rw [hx] at h
      refine wp_seq (wp_mono (code_sound hrun hent n x ann.l s e1 s1 hx hd.1 a w r) fun e' a' w' hp => ?_)
      obtain ⟨rfl, r'⟩ := hp
      cases e' with
      | normal => exact code_sound hrun hent n y ann.r s1 e s' h hd.2 a' w' r'
      | _ =>
        simp only [thenN, Option.some.injEq, Prod.mk.injEq] at h
        obtain ⟨rfl, rfl⟩ := h
        exact ⟨rfl, r'⟩
  | .cond c x y, ann, s, e, s', h, hd => by
    simp only [exCode] at h
    simp only [dstOK, Bool.and_eq_true] at hd
    refine around_sound h fun s e s' h a w r => ?_
    split at h
    · rename_i b hb
      obtain ⟨F, β, r'⟩ := r
      have hv := r'.env.eval c
      rw [hb] at hv
      split at h
      · exact wp_cond_true hv.bool_inv (code_sound hrun hent n x ann.l s e s' h hd.1 a w ⟨F, β, r'⟩)
      · exact wp_cond_false hv.bool_inv (code_sound hrun hent n y ann.r s e s' h hd.2 a w ⟨F, β, r'⟩)
    · cases h
  | .block id x, ann, s, e, s', h, hd => by
    simp only [exCode] at h
    simp only [dstOK] at hd
    refine around_sound h fun s e s' h a w r => ?_
    cases hx : exCode cx n pin x ann.l s with
    | none => rw [hx] at h; cases h
    | some q =>
      obtain ⟨e1, s1⟩ := q
      rw [hx] at h
      refine wp_block (wp_mono (code_sound hrun hent n x ann.l s e1 s1 hx hd a w r) fun e' a' w' hp => ?_)
      obtain ⟨rfl, r'⟩ := hp
      cases e' with
      | exit j =>
        simp only [unblock] at h
        simp only [Exit.inBlock]
        split at h
        · cases h; rename_i e; rw [if_pos e]; exact ⟨rfl, r'⟩
        · cases h; rename_i e; rw [if_neg e]; exact ⟨rfl, r'⟩
      | _ =>
        simp only [unblock, Option.some.injEq, Prod.mk.injEq] at h
        obtain ⟨rfl, rfl⟩ := h
        exact ⟨rfl, r'⟩
  | .loop x, ann, s, e, s', h, hd => by
    simp only [exCode] at h
    simp only [dstOK] at hd
    refine around_sound h fun s e s' h a w r => ?_
    exact loop_sound (fun s e s' h a w r => code_sound hrun hent n x ann.l s e s' h hd a w r) h a w r
  | .exit id, ann, s, e, s', h, hd => by
    simp only [exCode] at h
    refine around_sound h fun s e s' h a w r => ?_
    cases h
    exact wp_exit ⟨rfl, r⟩
  | .ret, ann, s, e, s', h, hd => by
    simp only [exCode] at h
    refine around_sound h fun s e s' h a w r => ?_
    cases h
    exact wp_ret ⟨rfl, r⟩
  | .goto .., ann, s, e, s', h, hd => by simp only [exCode] at h; cases h
  | .label .., ann, s, e, s', h, hd => by simp only [exCode] at h; cases h
end
end Go.LM
