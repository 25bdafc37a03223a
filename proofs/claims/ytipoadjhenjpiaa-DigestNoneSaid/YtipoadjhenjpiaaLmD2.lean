/- LM: soft operations in a larger heap; fresh numbers; what an operation looks at. -/
import Derived.Test.YtipoadjhenjpiaaLmD1
set_option linter.unusedVariables false
set_option linter.unusedSimpArgs false
namespace Go.LM

section
variable {H H2 : Heap}

theorem set_same {h : Heap} {id : Nat} {b : Blk} (e : h id = some b) : h.set id b = h := by
  funext j
  unfold Heap.set
  split
  · rename_i e'; subst e'; exact e.symm
  · rfl

/-- What a soft step is. -/
def SoftAt (f : Heap → Res) (H : Heap) (id0 : Nat) (v : AV) (H' : Heap) : Prop :=
  (∀ j, ¬ (id0 ≤ j ∧ j < id0 + W) → H' j = H j) ∧ ∀ H2, Sub H H2 → (∀ j, id0 ≤ j → j < id0 + W → H2 j = H' j) → f H2 = some (v, H2, false)

theorem softAt_soft {f : Heap → Option AV} {id0 v H' hd} (h : soft H (f H) = some (v, H', hd)) (hm : ∀ H2, Sub H H2 → ∀ r, f H = some r → f H2 = some r) : SoftAt (fun H => soft H (f H)) H id0 v H' := by
  obtain ⟨h1, rfl⟩ := soft_some h
  refine ⟨fun _ _ => rfl, fun H2 s _ => ?_⟩
  show soft H2 (f H2) = _
  rw [hm H2 s v h1]
  rfl

theorem softAt_const {v' : AV} {id0 v H' hd} (h : some (v', H, false) = some (v, H', hd)) : SoftAt (fun H => some (v', H, false)) H id0 v H' := by
  cases h
  exact ⟨fun _ _ => rfl, fun H2 _ _ => rfl⟩

theorem softAt_new {id0 : Nat} {b : Blk} {v : AV} : SoftAt (fun H => some (v, H.set id0 b, false)) H id0 v (H.set id0 b) := by
  refine ⟨fun j hj => Heap.set_ne (fun e => hj ⟨by omega, by unfold W; omega⟩), fun H2 s hr => ?_⟩
  show some (v, H2.set id0 b, false) = _
  rw [set_same (by rw [hr id0 (Nat.le_refl _) (by unfold W; omega)]; exact Heap.set_self)]

theorem frz_none {l : List AV} (h : hasRow l = false) (H : Heap) : freezeL l H = H := by
  funext j
  rw [freezeL_eq, rowIds_none h]
  simp

theorem reach_nil (H : Heap) : ∀ n, reach H n [] = []
  | 0 => rfl
  | n + 1 => by simp [reach, addNew]

theorem subH_nil (H : Heap) (f : Nat → Nat) : subH H [] f = fun _ => none := by funext j; simp [subH]

theorem exCall_soft {cx : Cx} {f : FuncId} {args : List AV} {id0 : Nat} {v : AV} {H' : Heap} (h : exCall cx f args H id0 = some (v, H', false)) : SoftAt (fun H => exCall cx f args H id0) H id0 v H' := by
  unfold exCall at h
  cases has : exportAll H (cx.own f) args with
  | none => rw [has] at h; cases h
  | some as =>
  rw [has] at h
  simp only [Option.bind_some] at h
  split at h
  · rename_i hchk
    cases hr : cx.run f (renL (fun id => (idxOf id (reach H 8 (addNew [] (idsL as))) 0).getD 0) as) (reach H 8 (addNew [] (idsL as))).length (subH H (reach H 8 (addNew [] (idsL as))) fun id => (idxOf id (reach H 8 (addNew [] (idsL as))) 0).getD 0) with
    | none => rw [hr] at h; cases h
    | some q =>
    obtain ⟨r, h1, n1⟩ := q
    rw [hr] at h
    simp only [Option.bind_some] at h
    split at h
    · rename_i hn1
      simp only [Option.some.injEq, Prod.mk.injEq, Bool.or_eq_false_iff] at h
      obtain ⟨hv, hH, hfr, hmv⟩ := h
      have hmv' : reach H 8 (addNew [] (idsL as)) = [] := by simpa using hmv
      have hadd : addNew [] (idsL as) = [] := by
        obtain ⟨_, m, e⟩ := reach_spec H 8 (addNew [] (idsL as)) (addNew_spec _ [] rfl).1
        rw [hmv'] at e
        have := congrArg List.length e
        simp at this
        exact List.eq_nil_of_length_eq_zero (by omega)
      rw [hmv'] at hchk hn1 hv hH hr
      rw [subH_nil] at hr
      rw [hfr] at hH
      simp only [Bool.false_eq_true, if_false] at hH
      simp only [Bool.and_eq_true, decide_eq_true_eq] at hchk hn1
      obtain ⟨⟨⟨⟨⟨hclosed, hnodup⟩, hargs⟩, hlent⟩, hlow⟩, hrows⟩ := hchk
      subst hH
      refine ⟨fun j hj => ?_, fun H2 s hrng => ?_⟩
      · unfold mergeH
        simp only [idxOf]
        rw [if_neg]
        intro hc
        refine hj ⟨hc.1, ?_⟩
        have := hn1.1
        unfold W
        simp only [List.length_nil] at this hc
        omega
      · show exCall cx f args H2 id0 = _
        unfold exCall
        rw [exportAll_mono s has]
        simp only [Option.bind_some]
        have hre : reach H2 8 (addNew [] (idsL as)) = [] := by rw [hadd]; exact reach_nil H2 8
        rw [hre, subH_nil, hr]
        have hrows' : ((lentRows (cx.own f) args).filter rowOnly).all (isRow H2) = true := List.all_eq_true.2 fun a ha => isRow_mono s (List.all_eq_true.1 hrows a ha)
        have hm : mergeH H2 h1 [] id0 n1 = H2 := by
          funext j
          unfold mergeH
          simp only [idxOf]
          split
          · rename_i hc
            have hlt : j < id0 + W := by
              have := hn1.1
              unfold W
              simp only [List.length_nil] at this hc
              omega
            rw [hrng j hc.1 hlt]
            unfold mergeH
            simp only [idxOf]
            rw [if_pos hc]
          · rfl
        rw [if_pos (by rw [hnodup, hargs, hlent, hlow, hrows']; rfl)]
        simp only [Option.bind_some]
        rw [if_pos (by simp only [Bool.and_eq_true, decide_eq_true_eq]; exact hn1), hfr, hv, hm]
        simp
    · cases h
  · cases h

theorem exConvert_soft {P : Program} {src dst : TypeId} {id0 : Nat} {a v : AV} {H' : Heap} {hd : Bool} (h : exConvert P src dst H id0 a = some (v, H', hd)) : SoftAt (fun H => exConvert P src dst H id0 a) H id0 v H' := by
  unfold exConvert at h ⊢
  split at h
  · rename_i k1 k2 hs hd'
    (try simp only [hs, hd'])
    cases a <;> first
      | (rename_i t x; cases t <;> first | exact softAt_const h | cases h)
      | cases h
  · rename_i hs hd'
    (try simp only [hs, hd'])
    cases a <;> first
      | (rename_i t x; cases t <;> first | exact softAt_const h | cases h)
      | cases h
  · rename_i e hs hd'
    (try simp only [hs, hd'])
    split at h
    · rename_i hel
      simp only [hel, if_true]
      cases hx : asList H (.int .u8) a with
      | none => rw [hx] at h; cases h
      | some xs =>
        rw [hx] at h
        cases h
        refine ⟨fun _ _ => rfl, fun H2 s _ => ?_⟩
        simp only
        rw [asList_mono s hx]
        rfl
    · cases h
  · rename_i e hs hd'
    (try simp only [hs, hd'])
    split at h
    · rename_i hel
      simp only [hel, if_true]
      cases a <;> first
        | (rename_i t x; cases t <;> first | (cases h; exact softAt_new) | cases h)
        | cases h
    · cases h
  · cases h

theorem exAppend_soft {P : Program} {T U : TypeId} {id0 : Nat} {a b v : AV} {H' : Heap} (h : exAppend P T U H id0 a b = some (v, H', false)) : SoftAt (fun H => exAppend P T U H id0 a b) H id0 v H' := by
  unfold exAppend at h ⊢
  cases hT : elemTy P T with
  | none => rw [hT] at h; cases h
  | some q =>
  obtain ⟨e, t⟩ := q
  simp only [hT, Option.bind_some] at h ⊢
  cases hz : zeroD P e t with
  | none => rw [hz] at h; cases h
  | some z =>
  simp only [hz, Option.bind_some] at h ⊢
  split at h
  · cases h
  · rename_i hb
    simp only [hb, if_false]
    cases hs : srcOf P U H t b with
    | none => rw [hs] at h; cases h
    | some ys =>
      rw [hs] at h
      simp only [Option.bind_some] at h
      cases a with
      | nilS =>
        simp only at h
        split at h
        · rename_i hc
          cases h
          refine ⟨fun j hj => Heap.set_ne (fun e => hj ⟨by omega, by unfold W; omega⟩), fun H2 s hr => ?_⟩
          simp only
          rw [srcOf_mono s hs]
          simp only [Option.bind_some]
          rw [if_pos hc, set_same (by rw [hr id0 (Nat.le_refl _) (by unfold W; omega)]; exact Heap.set_self)]
        · cases h
      | full id =>
        simp only at h
        split at h
        · rename_i u xs hH
          cases hx : castL (u := t) xs with
          | none => rw [hx] at h; cases h
          | some zs =>
            rw [hx] at h
            simp only [Option.bind_some] at h
            split at h
            · simp at h
            · cases h
        · cases h
      | _ => cases h

theorem exOp_soft {cx : Cx} {ρ : Operand → AV} {o : Op} {T : TypeId} {id0 : Nat} {v : AV} {H' : Heap} (h : exOp cx ρ o T H id0 = some (v, H', false)) : SoftAt (fun H => exOp cx ρ o T H id0) H id0 v H' := by
  cases o <;> simp only [exOp] at h ⊢
  case move x => exact softAt_const h
  case assign x => exact softAt_const h
  case pick c a b =>
    split at h
    · rename_i hc; (try simp only [hc]); exact softAt_const h
    · rename_i hc; (try simp only [hc]); exact softAt_const h
    · cases h
  case alloc e =>
    cases hz : zeroL cx.P e with
    | none => rw [hz] at h; cases h
    | some l =>
      simp only [hz, Option.bind_some] at h ⊢
      split at h
      · rename_i hf; simp only [hf, if_true]; cases h; exact softAt_new
      · cases h
  case box e x =>
    split at h
    · rename_i hc; simp only [hc, and_self, not_false_eq_true, ne_eq, if_true]; cases h; exact softAt_new
    · cases h
  case build t ps => exact softAt_soft (f := fun H => exBuild cx.P H t (ps.toList.map fun (i, x) => (i, ρ x))) h fun H2 s r hr => exBuild_mono s hr
  case buildSlice t n ps =>
    cases hT : elemTy cx.P t with
    | none => rw [hT] at h; cases h
    | some q =>
    obtain ⟨e, u⟩ := q
    simp only [hT, Option.bind_some] at h ⊢
    cases hz : zeroD cx.P e u with
    | none => rw [hz] at h; cases h
    | some z =>
    simp only [hz, Option.bind_some] at h ⊢
    split at h
    · cases h
    · rename_i hc
      simp only [hc, if_false]
      cases hx : setElems (freezeL (ps.toList.flatMap fun p => (ρ p.2).leaves) H) u (ps.toList.map fun p => (p.1, ρ p.2)) (List.replicate n z) with
      | none => rw [hx] at h; cases h
      | some xs =>
        rw [hx] at h
        simp only [Option.map_some, Option.some.injEq, Prod.mk.injEq] at h
        obtain ⟨h1, h2, h3⟩ := h
        rw [frz_none h3] at hx h2
        subst h1; subst h2
        refine ⟨fun j hj => Heap.set_ne (fun e => hj ⟨by omega, by unfold W; omega⟩), fun H2 s hr => ?_⟩
        simp only
        rw [frz_none h3, setElems_mono s hx]
        simp only [Option.map_some]
        rw [set_same (by rw [hr id0 (Nat.le_refl _) (by unfold W; omega)]; exact Heap.set_self), h3]
  case load t a => exact softAt_soft (f := fun H => exLoad cx.P t H (ρ a)) h fun H2 s r hr => exLoad_mono s hr
  case store t b x =>
    cases hs : exStore cx.P t H (ρ b) (ρ x) with
    | none => rw [hs] at h; cases h
    | some h' => rw [hs] at h; simp at h
  case nilCheck x =>
    split at h
    · rename_i hc; (try simp only [hc]); exact softAt_const h
    · rename_i hc; (try simp only [hc]); exact softAt_const h
    · rename_i hc; (try simp only [hc]); exact softAt_const h
    · cases h
  case binOp op t x y u => exact softAt_soft (f := fun _ => exBin cx.P t op (ρ x) (ρ y)) h fun H2 s r hr => hr
  case unOp op t x => exact softAt_soft (f := fun _ => exUn op (ρ x)) h fun H2 s r hr => hr
  case convert s t x => exact exConvert_soft h
  case makeFunc fn first caps =>
    cases fn with
    | func f =>
      simp only at h ⊢
      split at h
      · rename_i h0; simp only [h0, if_true]; exact softAt_const h
      · cases h
    | _ => cases h
  case makeSlice t l c =>
    split at h
    · rename_i i x j y e1 e2
      (try simp only [e1, e2])
      cases hT : elemTy cx.P t with
      | none => rw [hT] at h; cases h
      | some q =>
      obtain ⟨e, u⟩ := q
      simp only [hT, Option.bind_some] at h ⊢
      cases hz : zeroD cx.P e u with
      | none => rw [hz] at h; cases h
      | some z =>
      simp only [hz, Option.bind_some] at h ⊢
      split at h
      · rename_i hb
        simp only [hb, and_self, if_true]
        split at h
        · cases h
        · rename_i hb0
          simp only [hb0, if_false]
          cases h
          exact softAt_new
      · cases h
    · cases h
  case slice t x lo hi mx => exact softAt_soft (f := fun H => exSlice cx.P t H (ρ x) (lo.map ρ) (hi.map ρ) mx.isSome) h fun H2 s r hr => exSlice_mono s hr
  case fieldAddr s x f => exact softAt_soft (f := fun _ => exFieldAddr cx.P s (ρ x) f) h fun H2 s r hr => hr
  case field s x f => exact softAt_soft (f := fun _ => exField cx.P s (ρ x) f) h fun H2 s r hr => hr
  case indexAddr t x i => exact softAt_soft (f := fun H => exIndexAddr cx.P t H (ρ x) (ρ i)) h fun H2 s r hr => exIndexAddr_mono s hr
  case index t x i => exact softAt_soft (f := fun _ => exIndex cx.P t (ρ x) (ρ i)) h fun H2 s r hr => hr
  case extract x i =>
    split at h
    · rename_i xs e; (try simp only [e]); exact softAt_soft (f := fun _ => xs[i]?) h fun H2 s r hr => hr
    · cases h
  case call c =>
    split at h
    · rename_i f hf
      (try simp only [hf])
      split at h
      · rename_i q caps e
        (try simp only [e])
        exact exCall_soft h
      · cases h
    · rename_i b hb
      (try simp only [hb])
      unfold exBuiltin at h ⊢
      split at h
      · rename_i x e1
        (try simp only [e1])
        split at h
        · rename_i A e2
          (try simp only [e2])
          exact softAt_soft (f := fun H => (lenOf cx.P A H x).map fun n => .dat (.int .i64) n) h fun H2 s r hr => by
            cases hl : lenOf cx.P A H x with
            | none => rw [hl] at hr; cases hr
            | some n => rw [hl] at hr; rw [lenOf_mono s hl]; exact hr
        · cases h
      · rename_i x y e1
        (try simp only [e1])
        split at h
        · rename_i A B e2
          (try simp only [e2])
          exact exAppend_soft h
        · cases h
      · rename_i x y e1
        split at h
        · rename_i A B e2
          exfalso
          unfold exCopy at h
          cases hT : elemTy cx.P A with
          | none => rw [hT] at h; cases h
          | some q =>
            obtain ⟨e, t⟩ := q
            rw [hT] at h
            simp only [Option.bind_some] at h
            obtain ⟨z, _, h⟩ := Option.bind_eq_some_iff.1 h
            · obtain ⟨id, off, lo, hi⟩ := z
              simp only at h
              split at h
              · rename_i u xs hA
                cases hx : castL (u := t) xs with
                | none => rw [hx] at h; cases h
                | some zs =>
                  rw [hx] at h
                  simp only [Option.bind_some] at h
                  cases hs : srcOf cx.P B H t y with
                  | none => rw [hs] at h; cases h
                  | some ys =>
                    rw [hs] at h
                    simp only [Option.bind_some] at h
                    generalize setArr H id off t (zs.take lo.toNat ++ (ys.take (hi - lo).toNat ++ zs.drop (lo.toNat + min ys.length (hi - lo).toNat))) = w at h
                    cases w with
                    | none => cases h
                    | some w => simp at h
              · cases h
        · cases h
      · rename_i x l e1
        (try simp only [e1])
        exact softAt_soft (f := fun _ => minL false l x) h fun H2 s r hr => hr
      · rename_i x l e1
        (try simp only [e1])
        exact softAt_soft (f := fun _ => minL true l x) h fun H2 s r hr => hr
      · cases h
    · cases h
  all_goals cases h
end
end Go.LM
