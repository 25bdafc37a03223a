/- LM: one operation. -/
import Derived.Test.YtipoadjhenjpiaaLmC2
set_option linter.unusedVariables false
set_option linter.unusedSimpArgs false
namespace Go.LM

section
variable {P : Program} {F : Nat → Prop} {w : World} {β : Nat → Option Conc}

theorem ofVal_rel (v : Value) : RelV F w β (ofVal v) v := by
  unfold ofVal
  split
  · exact RelV.bool _
  · split
    · rename_i n h; exact RelV.int (toI_ofI .u8 n fun _ => h)
    · exact .any _
  · rename_i k n hk
    exact RelV.int (toI_ofI k n fun e => absurd e hk)
  · rename_i s
    have := RelV.str (F := F) (w := w) (β := β) s.data.toList
    simpa using this
  · exact .one _ _ rfl .nilS
  · exact .one _ _ rfl .nilP
  · exact .one _ _ rfl .nilF
  · exact .one _ _ rfl (.fn _ [] [] .nil)
  · exact .any _

/-- A value among others: what it is. -/
theorem LeftW.same {X H id0 a r} (g : Good X F w β H) (h : RelV F w β a r) : LeftW X F w β H id0 a r w := ⟨F, β, g, .refl, h, fun _ hj => .inl hj⟩

theorem run_v {s : Sem Value} {r : Value} {w' : World} (h : s.run P w = .ok r w') : ((do pure (Next.value (← s)) : Sem Next)).run P w = .ok (.value r) w' := by
  simp [h, pure, Sem.run]
theorem run_u {s : Sem Unit} {w' : World} (h : s.run P w = .ok () w') : ((do s; pure Next.skip : Sem Next)).run P w = .ok .skip w' := by
  simp [h, pure, Sem.run]

theorem relVs_map {ρ : Operand → AV} {σ : Operand → Value} (hρ : ∀ x, RelV F w β (ρ x) (σ x)) : ∀ (l : List Operand), RelVs F w β (l.map ρ) (l.map σ)
  | [] => .nil
  | x :: l => .cons _ _ _ _ (hρ x) (relVs_map hρ l)
theorem relParts_map {ρ : Operand → AV} {σ : Operand → Value} (hρ : ∀ x, RelV F w β (ρ x) (σ x)) : ∀ (l : List (Nat × Operand)), RelParts F w β (l.map fun p => (p.1, ρ p.2)) (l.map fun p => (p.1, σ p.2))
  | [] => trivial
  | (i, x) :: l => ⟨rfl, hρ x, relParts_map hρ l⟩
theorem relParts_mono {F' w' β'} (e : Ext F w β F' w' β') : ∀ {l : List (Nat × AV)} {m : List (Nat × Value)}, RelParts F w β l m → RelParts F' w' β' l m
  | [], [], _ => trivial
  | (_, _) :: _, (_, _) :: _, ⟨h1, h2, h3⟩ => ⟨h1, h2.mono e, relParts_mono e h3⟩
  | [], _ :: _, h => h.elim
  | _ :: _, [], h => h.elim
theorem RelVs.append : ∀ {a b : List AV} {u v : List Value}, RelVs F w β a u → RelVs F w β b v → RelVs F w β (a ++ b) (u ++ v)
  | _, _, _, _, .nil, h => h
  | _, _, _, _, .cons a l v vs h1 h2, h => .cons a _ v _ h1 (h2.append h)
theorem RelVs.get : ∀ {a : List AV} {u : List Value}, RelVs F w β a u → ∀ {i : Nat} {x : AV}, a[i]? = some x → ∃ y, u[i]? = some y ∧ RelV F w β x y
  | _, _, .nil, i, x, h => by simp at h
  | _, _, .cons a l v vs h1 h2, i, x, h => by
    cases i with
    | zero => simp at h; subst h; exact ⟨v, by simp, h1⟩
    | succ i => simp at h ⊢; exact h2.get h
theorem RelVs.len : ∀ {a : List AV} {u : List Value}, RelVs F w β a u → u.length = a.length
  | _, _, .nil => rfl
  | _, _, .cons _ _ _ _ _ h => by simp [h.len]

theorem sim_len {X H} (g : Good X F w β H) {T ty : TypeId} {a : AV} {n : Int} (h : lenOf P T H a = some n) {v : Value} (ha : RelV F w β a v) : (Builtin.len_ #[T] ty #[v]).run P w = .ok (.int .i64 n) w := by
  unfold lenOf at h
  have hd : ∀ {m : Int} , (goInt m) = .int .i64 m := rfl
  split at h
  · rename_i s hT
    cases h
    rw [ha.str_inv]
    unfold Builtin.len_
    simp only [und hT, List.getElem?_toArray, List.getElem?_cons_zero, Sem.run_bind, Result.andThen_ok, pure, Sem.run, goInt]
    simp [ByteArray.size]
  · rename_i e t xs hT
    cases h
    rcases ha.dat_inv with ⟨_, hr⟩ | ⟨hm, _⟩
    · obtain ⟨A, c, rfl, _⟩ := slice_elem hr
      unfold Builtin.len_
      simp only [und hT, List.getElem?_toArray, List.getElem?_cons_zero, Sem.run_bind, Result.andThen_ok, pure, Sem.run, goInt]
    · simp [isMany] at hm
  · rename_i m e x hT
    cases h
    unfold Builtin.len_
    simp only [und hT, List.getElem?_toArray, List.getElem?_cons_zero, Sem.run_bind, Result.andThen_ok, pure, Sem.run, goInt]
  · rename_i e hT
    cases h
    rw [ha.nilS_inv]
    unfold Builtin.len_
    simp only [und hT, List.getElem?_toArray, List.getElem?_cons_zero, Sem.run_bind, Result.andThen_ok, pure, Sem.run, goInt]
    rfl
  · rename_i e id hT
    cases hA : arrAt H id 0 with
    | none => rw [hA] at h; cases h
    | some p =>
      obtain ⟨t, xs⟩ := p
      rw [hA] at h; cases h
      obtain ⟨c, t', len, rfl, hc, hsh, hle⟩ := ha.full_inv
      obtain ⟨h1, _⟩ := arrAt_rel g hA hc
      have : len = xs.length := by rw [hsh] at h1; simp [arrSh] at h1; omega
      subst this
      unfold Builtin.len_
      simp only [und hT, List.getElem?_toArray, List.getElem?_cons_zero, Sem.run_bind, Result.andThen_ok, pure, Sem.run, goInt]
  · rename_i e id off lo hi hT
    cases h
    obtain ⟨c, m, t', A, cap, rfl, hc, hsh, h4, h5, h6, h7, h8⟩ := ha.sub_inv
    unfold Builtin.len_
    simp only [und hT, List.getElem?_toArray, List.getElem?_cons_zero, Sem.run_bind, Result.andThen_ok, pure, Sem.run, goInt]
    rw [Int.toNat_of_nonneg (by omega)]
  · rename_i A x hT
    split at h
    · rename_i m e hA
      cases h
      unfold Builtin.len_
      simp only [und hT, und hA, List.getElem?_toArray, List.getElem?_cons_zero, Sem.run_bind, Result.andThen_ok, pure, Sem.run, goInt]
    · cases h
  · cases h

theorem sim_min2 {mx : Bool} {a b c : AV} {u v : Value} (h : min2 mx a b = some c) (ha : RelV F w β a u) (hb : RelV F w β b v) :
    ∃ r, ((if mx then Builtin.max2 else Builtin.min2) u v).run P w = .ok r w ∧ RelV F w β c r := by
  unfold min2 at h
  split at h
  · rename_i k x j y
    split at h
    · rename_i e
      subst e
      cases h
      rw [ha.int_inv, hb.int_inv]
      cases mx with
      | true =>
        refine ⟨.int k (if toI k y > toI k x then toI k y else toI k x), by simp [Builtin.max2, pure, Sem.run], RelV.int ?_⟩
        simp only [if_true]
        rw [toI_ofI]
        intro e; subst e
        have := toI_u8 x; have := toI_u8 y
        split <;> assumption
      | false =>
        refine ⟨.int k (if toI k y < toI k x then toI k y else toI k x), by simp [Builtin.min2, pure, Sem.run], RelV.int ?_⟩
        simp only [Bool.false_eq_true, if_false]
        rw [toI_ofI]
        intro e; subst e
        have := toI_u8 x; have := toI_u8 y
        split <;> assumption
    · cases h
  · cases h

theorem sim_minL {mx : Bool} : ∀ {l : List AV} {us : List Value} {a c : AV} {u : Value}, minL mx l a = some c → RelVs F w β l us → RelV F w β a u →
    ∃ r, (us.foldlM (if mx then Builtin.max2 else Builtin.min2) u).run P w = .ok r w ∧ RelV F w β c r
  | [], _, a, c, u, h, .nil, ha => by simp only [minL] at h; cases h; exact ⟨u, by simp [pure, Sem.run], ha⟩
  | b :: l, _, a, c, u, h, .cons _ _ v vs h1 h2, ha => by
    simp only [minL] at h
    cases hm : min2 mx a b with
    | none => rw [hm] at h; cases h
    | some d =>
      rw [hm] at h
      simp only [Option.bind_some] at h
      obtain ⟨r, hr1, hr2⟩ := sim_min2 (P := P) hm ha h1
      obtain ⟨r', hr3, hr4⟩ := sim_minL h h2 hr2
      refine ⟨r', ?_, hr4⟩
      rw [List.foldlM_cons, Sem.run_bind, hr1]
      exact hr3

theorem sim_buildSlice {X H} (g : Good X F w β H) {id0 : Nat} (hid : β id0 = none) {T e : TypeId} {u : Ty} (hT : elemTy P T = some (e, u)) {z : u.D} (hz : zeroD P e u = some z) {n : Nat} (hn : ¬ (2 ^ 24 < n * u.sz)) (hn0 : n * u.sz ≠ 0)
    {ps : List (Nat × AV)} {qs : Array (Nat × Value)} (hpq : RelParts F w β ps qs.toList) (hidx : ∀ p ∈ ps, p.1 < n) {ls : List AV} (hls : ∀ p ∈ ps, ∀ a ∈ p.2.leaves, a ∈ ls) {xs : List u.D} (hx : setElems (freezeL ls H) u ps (List.replicate n z) = some xs) :
    ∃ r w', (Instr.buildSlice T n qs).run P w = .ok r w' ∧ Left X F w β ((freezeL ls H).set id0 (.row u xs false)) id0 (.full id0) r w' := by
  obtain ⟨hT1, hT2⟩ := elemTy_some hT
  obtain ⟨_, ⟨inf, hi⟩, hsz, _, _⟩ := tyC_some hT2
  obtain ⟨F1, g1, ex1, hF1⟩ := g.freezeL ls
  obtain ⟨zv, hzv, hzr⟩ := zeroD_rep (F := F1) (w := w) hz
  obtain ⟨hz1, _⟩ := zero_run (P := P) (w := w) hzv
  have hzs : zv.cells.size = u.sz := by have := rep_len _ _ _ hzr; simpa using this
  have hrz := rep_zeros hzr n
  have hinit : (((Array.range (n * u.sz)).map fun i => zv.cells[i % zv.cells.size]!)).toList = (List.range (n * zv.cells.size)).map fun i => zv.cells[i % zv.cells.size]! := by simp [hzs]
  obtain ⟨arr, h1, h2⟩ := setElems_fill g1 ps qs.toList _ xs ((Array.range (n * u.sz)).map fun i => zv.cells[i % zv.cells.size]!) (relParts_mono ex1 hpq) hx (by rw [hinit]; exact hrz) (fun p hp => hF1.mono fun a ha => hls p hp a ha) hidx
  have hxl := (rep_ar_iff.1 h2).1
  obtain ⟨c, g', ex, rv⟩ := new_row g1 hid (t := u) (xs := xs) (vs := arr.toList) (rest := []) (cap := n) (by rw [hxl]; exact h2) (by omega) (by simp [(rep_ar_iff.1 h2).2.1] ) e (0, 0) (fun o _ => by simp)
  refine ⟨.slice (some ⟨w.heap.size, 0, none⟩) n n, _, ?_, F1, upd β id0 c, g', ex1.trans ex, by rw [hxl] at rv; exact rv, fun j hj => ?_⟩
  · unfold Instr.buildSlice
    simp only [Sem.run_bind, und hT1, Result.andThen_ok, sizeOf_run hi, hsz]
    rw [if_neg (by omega)]
    simp only [pure, Sem.run, Result.andThen_ok, Sem.run_bind]
    rw [if_neg hn0]
    simp only [pure, Sem.run, Result.andThen_ok, Sem.run_bind, hz1, h1, newRow_run]
    simp
  · by_cases e' : j = id0
    · exact .inr e'
    · left; rw [upd_ne e'] at hj; exact hj

end
end Go.LM
