/- LM: calls. -/
import Derived.Test.YtipoadjhenjpiaaLmC1
set_option linter.unusedVariables false
set_option linter.unusedSimpArgs false
namespace Go.LM

theorem idxOf_some : ∀ {l : List Nat} {x k j : Nat}, idxOf x l k = some j → k ≤ j ∧ l[j - k]? = some x
  | [], _, _, _, h => by cases h
  | y :: l, x, k, j, h => by
    simp only [idxOf] at h
    split at h
    · rename_i e; cases h; subst e; simp
    · obtain ⟨h1, h2⟩ := idxOf_some h
      refine ⟨by omega, ?_⟩
      rw [show j - k = (j - (k + 1)) + 1 by omega, List.getElem?_cons_succ]
      exact h2
theorem idxOf_mem : ∀ {l : List Nat} {x k : Nat}, x ∈ l → ∃ j, idxOf x l k = some j
  | [], _, _, h => by cases h
  | y :: l, x, k, h => by
    simp only [idxOf]
    split
    · exact ⟨_, rfl⟩
    · rename_i e
      exact idxOf_mem ((List.mem_cons.1 h).resolve_left e)
theorem idxOf_none : ∀ {l : List Nat} {x k : Nat}, idxOf x l k = none → x ∉ l := fun h hm => by
  obtain ⟨j, hj⟩ := idxOf_mem hm
  rw [hj] at h; cases h
theorem idxOf_get : ∀ {l : List Nat} {x k i : Nat}, nodupB l = true → l[i]? = some x → idxOf x l k = some (k + i)
  | [], _, _, _, _, h => by simp at h
  | y :: l, x, k, i, hn, h => by
    simp only [nodupB, Bool.and_eq_true, Bool.not_eq_true'] at hn
    simp only [idxOf]
    cases i with
    | zero => simp at h; rw [if_pos h.symm]; rfl
    | succ i =>
      simp only [List.getElem?_cons_succ] at h
      have hm : x ∈ l := List.mem_of_getElem? h
      have hne : x ≠ y := fun e => by
        subst e
        have := hn.1
        simp [hm] at this
      rw [if_neg hne, idxOf_get hn.2 h]
      congr 1; omega

/-- What a way of running functions must keep. -/
def RunSound (P : Program) (run : Run) : Prop :=
  ∀ f args pin h r h1 n1, run f args pin h = some (r, h1, n1) → ∀ (X : Cst) (F : Nat → Prop) (w : World) (β : Nat → Option Conc) (vals : List Value),
    Good X F w β h → (∀ j, β j ≠ none → j < pin) → RelVs F w β args vals →
    Calls P f vals.toArray w fun e w' => ∃ v F' β', e = .returned v ∧ Good X F' w' β' h1 ∧ Ext F w β F' w' β' ∧ (∀ j, j < pin → β' j = β j) ∧ (∀ j, β' j ≠ none → j < n1) ∧ RelV F' w' β' r v

/-- What an operation leaves: perhaps some blocks more. -/
def LeftW (X : Cst) (F : Nat → Prop) (w : World) (β : Nat → Option Conc) (H' : Heap) (id0 : Nat) (a : AV) (r : Value) (w' : World) : Prop :=
  ∃ F' β', Good X F' w' β' H' ∧ Ext F w β F' w' β' ∧ RelV F' w' β' a r ∧ ∀ j, β' j ≠ none → β j ≠ none ∨ (id0 ≤ j ∧ j < id0 + W)

theorem Left.wide {X F w β H' id0 a r w'} (h : Left X F w β H' id0 a r w') : LeftW X F w β H' id0 a r w' := by
  obtain ⟨F', β', h1, h2, h3, h4⟩ := h
  exact ⟨F', β', h1, h2, h3, fun j hj => (h4 j hj).imp id fun e => ⟨by omega, by unfold W; omega⟩⟩

section
variable {P : Program} {F : Nat → Prop} {w : World} {β : Nat → Option Conc}

theorem all_contains {l m : List Nat} (h : l.all m.contains = true) {x : Nat} (hx : x ∈ l) : x ∈ m := by
  have := List.all_eq_true.1 h x hx
  simpa using this

/-! ### rows that are lent -/
def rowIds : List AV → List Nat
  | [] => []
  | .full id :: l => id :: rowIds l
  | .sub id _ _ _ :: l => id :: rowIds l
  | _ :: l => rowIds l
def frzB : Option Blk → Option Blk
  | some (.row t xs _) => some (.row t xs true)
  | b => b
theorem frzB_frzB (b : Option Blk) : frzB (frzB b) = frzB b := by
  cases b with
  | none => rfl
  | some b => cases b <;> rfl
theorem frz1_eq (h : Heap) (id j : Nat) : frz1 h id j = if j = id then frzB (h j) else h j := by
  unfold frz1
  by_cases e : j = id
  · subst e; rw [if_pos rfl, if_pos rfl]
    cases h j with
    | none => rfl
    | some b => cases b <;> rfl
  · rw [if_neg e, if_neg e]
theorem freezeL_eq : ∀ (l : List AV) (h : Heap) (j : Nat), freezeL l h j = if (rowIds l).contains j then frzB (h j) else h j
  | [], h, j => by simp [freezeL, rowIds]
  | a :: l, h, j => by
    have step : ∀ id, freezeL l (frz1 h id) j = if (id :: rowIds l).contains j then frzB (h j) else h j := by
      intro id
      rw [freezeL_eq l, frz1_eq]
      by_cases e : j = id
      · subst e
        simp only [if_true, List.contains_cons, beq_self_eq_true, Bool.true_or]
        split
        · exact frzB_frzB _
        · rfl
      · simp [e]
    cases a with
    | full id => exact step id
    | sub id off lo hi => exact step id
    | _ => exact freezeL_eq l h j
theorem rowIds_mem : ∀ {l : List AV} {id : Nat}, id ∈ rowIds l ↔ (AV.full id ∈ l ∨ ∃ off lo hi, AV.sub id off lo hi ∈ l)
  | [], id => by simp [rowIds]
  | a :: l, id => by
    cases a <;> simp [rowIds, rowIds_mem (l := l), eq_comm]
    · constructor
      · rintro (h | h | h)
        · exact .inl (.inl h)
        · exact .inl (.inr h)
        · exact .inr h
      · rintro ((h | h) | h)
        · exact .inl h
        · exact .inr (.inl h)
        · exact .inr (.inr h)
    · constructor
      · rintro (h | h | ⟨a, b, c, h⟩)
        · exact .inr ⟨_, _, _, .inl ⟨h, rfl, rfl, rfl⟩⟩
        · exact .inl h
        · exact .inr ⟨a, b, c, .inr h⟩
      · rintro (h | ⟨a, b, c, ⟨h, _⟩ | h⟩)
        · exact .inr (.inl h)
        · exact .inl h
        · exact .inr (.inr ⟨a, b, c, h⟩)
theorem rowIds_ids {l : List AV} {id : Nat} (h : id ∈ rowIds l) : id ∈ idsL l := by
  rw [idsL_mem]
  rcases rowIds_mem.1 h with h | ⟨off, lo, hi, h⟩
  · exact ⟨_, h, by simp [idsA]⟩
  · exact ⟨_, h, by simp [idsA]⟩

theorem rowIds_none : ∀ {l : List AV}, hasRow l = false → rowIds l = []
  | [], _ => rfl
  | a :: l, h => by
    cases a <;> simp [hasRow] at h <;> simp [rowIds] <;> exact rowIds_none h

theorem arrAt_frz (l : List AV) (h : Heap) (id off : Nat) : arrAt (freezeL l h) id off = arrAt h id off := by
  unfold arrAt
  rw [freezeL_eq]
  by_cases hc : (rowIds l).contains id = true
  · rw [if_pos hc]
    cases h id with
    | none => rfl
    | some b => cases b <;> rfl
  · rw [if_neg hc]
theorem isRow_frz (l : List AV) (h : Heap) (a : AV) : isRow (freezeL l h) a = isRow h a := by
  have key : ∀ id, (match freezeL l h id with | some (.row ..) => true | _ => false) = (match h id with | some (.row ..) => true | _ => false) := by
    intro id
    rw [freezeL_eq]
    by_cases hc : (rowIds l).contains id = true
    · rw [if_pos hc]
      cases h id with
      | none => rfl
      | some b => cases b <;> rfl
    · rw [if_neg hc]
  cases a <;> first | rfl | exact key _
theorem elemsOf_frz (l : List AV) (h : Heap) (a : AV) : elemsOf (freezeL l h) a = elemsOf h a := by
  unfold elemsOf
  cases a <;> simp [arrAt_frz]
mutual
theorem exportA_frz (l : List AV) (h : Heap) : ∀ a, exportA (freezeL l h) a = exportA h a
  | .full id => by simp only [exportA, isRow_frz, arrAt_frz]
  | .sub id off lo hi => by simp only [exportA, isRow_frz, elemsOf_frz]
  | .agg xs => by simp only [exportA, exportL_frz l h xs]
  | .dat _ _ => rfl
  | .nilS => rfl
  | .nilP => rfl
  | .nilF => rfl
  | .ptr _ _ => rfl
  | .fptr _ _ => rfl
  | .fn _ _ => rfl
  | .tup _ => rfl
  | .any => rfl
theorem exportL_frz (l : List AV) (h : Heap) : ∀ xs, exportL (freezeL l h) xs = exportL h xs
  | [] => rfl
  | a :: xs => by simp only [exportL, exportA_frz l h a, exportL_frz l h xs]
end
theorem exportAll_frz (l : List AV) (h : Heap) : ∀ (m : List Bool) (xs : List AV), exportAll (freezeL l h) m xs = exportAll h m xs := by
  intro m xs
  induction xs generalizing m with
  | nil => rfl
  | cons a xs ih =>
    cases m with
    | nil => simp only [exportAll, exportA_frz, ih]
    | cons b m => cases b <;> simp only [exportAll, exportA_frz, ih]

theorem lent_told : ∀ {m : List Bool} {l : List AV} {vs : List Value}, RelVs F w β l vs → ∀ id ∈ rowIds (lentRows m l), ∃ c, β id = some c := by
  intro m l
  induction l generalizing m with
  | nil => intro vs _ id h; simp [lentRows, rowIds] at h
  | cons a l ih =>
    intro vs hr id h
    cases hr with
    | cons _ _ v vs h1 h2 =>
    have ofRelCs : ∀ {l : List AV} {us : List Value}, RelCs F w β l us → ∀ id ∈ rowIds l, ∃ c, β id = some c := by
      intro l
      induction l with
      | nil => intro us _ id h; simp [rowIds] at h
      | cons x l ihl =>
        intro us hr id h
        cases hr with
        | cons _ _ u1 u2 g1 g2 g3 =>
        rcases rowIds_mem.1 h with h | ⟨off, lo, hi, h⟩
        · rcases List.mem_cons.1 h with e | e
          · subst e; cases g1 with | full _ c t len hc _ _ => exact ⟨c, hc⟩
          · exact ihl g3 id (rowIds_mem.2 (.inl e))
        · rcases List.mem_cons.1 h with e | e
          · subst e; cases g1 with | sub _ _ _ _ c n t A cap hc _ _ _ _ _ _ => exact ⟨c, hc⟩
          · exact ihl g3 id (rowIds_mem.2 (.inr ⟨off, lo, hi, e⟩))
    have data : ∀ m', id ∈ rowIds (a.leaves ++ lentRows m' l) → ∃ c, β id = some c := by
      intro m' h
      have hsplit : id ∈ rowIds a.leaves ∨ id ∈ rowIds (lentRows m' l) := by
        rcases rowIds_mem.1 h with h | ⟨off, lo, hi, h⟩
        · rcases List.mem_append.1 h with h | h
          · exact .inl (rowIds_mem.2 (.inl h))
          · exact .inr (rowIds_mem.2 (.inl h))
        · rcases List.mem_append.1 h with h | h
          · exact .inl (rowIds_mem.2 (.inr ⟨off, lo, hi, h⟩))
          · exact .inr (rowIds_mem.2 (.inr ⟨off, lo, hi, h⟩))
      rcases hsplit with h | h
      · by_cases hv : isVal a = true
        · exact ofRelCs (h1.leaves' hv) id h
        · cases a <;> simp [isVal] at hv <;> simp [AV.leaves, rowIds] at h
      · exact ih h2 id h
    cases m with
    | nil => exact data [] h
    | cons b m =>
      cases b with
      | false => exact data m h
      | true => exact ih h2 id h

theorem rowIds_filter {l : List AV} {id : Nat} (h : id ∈ rowIds (l.filter rowOnly)) : id ∈ rowIds l := by
  rcases rowIds_mem.1 h with h | ⟨off, lo, hi, h⟩
  · exact rowIds_mem.2 (.inl (List.mem_filter.1 h).1)
  · exact rowIds_mem.2 (.inr ⟨off, lo, hi, (List.mem_filter.1 h).1⟩)
theorem RowsF.unfilter {H : Heap} {l : List AV} (h : RowsF F β H (l.filter rowOnly)) : RowsF F β H l := fun id hid =>
  h id (hid.imp (fun h => List.mem_filter.2 ⟨h, rfl⟩) fun ⟨off, lo, hi, h⟩ => ⟨off, lo, hi, List.mem_filter.2 ⟨h, rfl⟩⟩)

theorem sim_call {cx : Cx} (hrun : RunSound cx.P cx.run) {X H} (g : Good X F w β H) {id0 : Nat} (fresh : ∀ j, id0 ≤ j → j < id0 + W → β j = none) {f : FuncId} {args : List AV} {x : AV} {H' : Heap} {hd : Bool}
    (h : exCall cx f args H id0 = some (x, H', hd)) {vals : List Value} (hv : RelVs F w β args vals) :
    Calls cx.P f vals.toArray w fun e w' => ∃ v, e = .returned v ∧ LeftW X F w β H' id0 x v w' := by
  unfold exCall at h
  cases has : exportAll H (cx.own f) args with
  | none => rw [has] at h; cases h
  | some as =>
  rw [has] at h
  simp only [Option.bind_some] at h
  generalize hmv : reach H 8 (addNew [] (idsL as)) = moved at h
  have hlentβ : ∀ id ∈ rowIds ((lentRows (cx.own f) args).filter rowOnly), ∃ c, β id = some c := fun id hid => lent_told (m := cx.own f) hv id (rowIds_filter hid)
  generalize hln : (lentRows (cx.own f) args).filter rowOnly = lent at h hlentβ
  split at h
  · rename_i hchk
    simp only [Bool.and_eq_true] at hchk
    obtain ⟨⟨⟨⟨⟨hclosed, hnodup⟩, hargs⟩, hlent⟩, hlow⟩, hrows⟩ := hchk
    have lentRow : ∀ id ∈ rowIds lent, ∃ t xs fr, H id = some (.row t xs fr) := fun id hid => by
      rcases rowIds_mem.1 hid with h | ⟨off, lo, hi, h⟩
      · exact isRow_full (List.all_eq_true.1 hrows _ h)
      · exact isRow_sub (List.all_eq_true.1 hrows _ h)
    cases hr : cx.run f (renL (fun id => (idxOf id moved 0).getD 0) as) moved.length (subH H moved fun id => (idxOf id moved 0).getD 0) with
    | none => rw [hr] at h; cases h
    | some q =>
    obtain ⟨r, h1, n1⟩ := q
    rw [hr] at h
    simp only [Option.bind_some] at h
    split at h
    · rename_i hn1
      simp only [Bool.and_eq_true, decide_eq_true_eq] at hn1
      obtain ⟨hn1, hn2⟩ := hn1
      -- the lent rows are foreign for the callee
      obtain ⟨Fc, gf, exf, hRF, hFc0⟩ : ∃ Fc, Good X Fc w β (freezeL lent H) ∧ Ext F w β Fc w β ∧ RowsF Fc β (freezeL lent H) lent ∧ (hasRow lent = false → Fc = F) := by
        cases hrow : hasRow lent with
        | true =>
          obtain ⟨Fc, a, b, c⟩ := g.freezeL lent
          exact ⟨Fc, a, b, c, fun e => by cases e⟩
        | false =>
          have e : freezeL lent H = H := by
            funext j
            rw [freezeL_eq, if_neg]
            simp only [List.contains_iff_mem]
            intro hj
            have hnr := rowIds_none hrow
            rw [hnr] at hj; cases hj
          rw [e]
          exact ⟨F, g, .refl, hasRow_none hrow, fun _ => rfl⟩
      have lentid : ∀ id ∈ rowIds lent, id ∉ moved := fun id hid hm => by
        have := List.all_eq_true.1 hlent id (rowIds_ids hid)
        simp [hm] at this
      have hHf : ∀ id ∈ moved, freezeL lent H id = H id := fun id hid => by
        rw [freezeL_eq, if_neg]
        simp only [List.contains_iff_mem]
        exact fun hc => lentid id hc hid
      -- numbers
      have toN : ∀ id ∈ moved, ∃ j, idxOf id moved 0 = some j ∧ moved[j]? = some id := fun id hid => by
        obtain ⟨j, hj⟩ := idxOf_mem (k := 0) hid
        exact ⟨j, hj, by simpa using (idxOf_some hj).2⟩
      have mvblk : ∀ id ∈ moved, ∃ blk, H id = some blk ∧ ∀ k ∈ idsB blk, k ∈ moved := fun id hid => by
        have := List.all_eq_true.1 hclosed id hid
        split at this
        · rename_i blk hb; exact ⟨blk, hb, fun k hk => all_contains this hk⟩
        · cases this
      let movedB : Nat → Prop := fun b => ∃ id c, id ∈ moved ∧ β id = some c ∧ c.b = some b ∧ ownB (H id) = true
      let βc : Nat → Option Conc := fun j => match moved[j]? with | some id => β id | none => none
      let X' : Cst := ⟨fun b => b < w.heap.size ∧ ¬ movedB b, Fc, w.heap.size, w⟩
      have hβc : ∀ {j id}, moved[j]? = some id → βc j = β id := fun {j id} hj => by show (match moved[j]? with | some id => β id | none => none) = β id; rw [hj]
      have hβc' : ∀ {j c}, βc j = some c → ∃ id, moved[j]? = some id ∧ β id = some c := fun {j c} hj => by
        change (match moved[j]? with | some id => β id | none => none) = some c at hj
        split at hj
        · exact ⟨_, by assumption, hj⟩
        · cases hj
      have ren1 : ∀ id ∈ moved, ∀ c, β id = some c → βc ((idxOf id moved 0).getD 0) = some c := fun id hid c hc => by
        obtain ⟨j, hj, hj2⟩ := toN id hid
        rw [hj]; show βc j = some c; rw [hβc hj2]; exact hc
      have hsub : ∀ {j id}, moved[j]? = some id → subH H moved (fun id => (idxOf id moved 0).getD 0) j = (H id).map (renB fun id => (idxOf id moved 0).getD 0) := fun {j id} hj => by unfold subH; rw [hj]
      have ownsub : ∀ {j}, ownB (subH H moved (fun id => (idxOf id moved 0).getD 0) j) = true → ∃ id, moved[j]? = some id ∧ ownB (H id) = true := fun {j} ho => by
        cases hj : moved[j]? with
        | none => unfold subH at ho; rw [hj] at ho; cases ho
        | some id =>
          rw [hsub hj] at ho
          refine ⟨id, rfl, ?_⟩
          cases hb : H id with
          | none => rw [hb] at ho; cases ho
          | some blk => rw [hb] at ho; cases blk <;> simp [ownB, renB] at ho ⊢ <;> exact ho
      -- the callee's world
      have gc : Good X' Fc w βc (subH H moved fun id => (idxOf id moved 0).getD 0) := by
        refine ⟨fun j c hc => ?_, fun j c b hc ho hb => ?_, fun j j' c c' b hc hc' ho ho' hb hb' => ?_, gf.fsz, fun b hb => .inl hb, fun b hb => hb, fun b _ => rfl, fun b hb => hb.1, Nat.le_refl _, ⟨rfl, rfl⟩⟩
        · obtain ⟨id, hj, hid⟩ := hβc' hc
          have hm := List.mem_of_getElem? hj
          obtain ⟨blk, hb1, hb2⟩ := gf.hr id c hid
          rw [hHf id hm] at hb1
          refine ⟨_, by rw [hsub hj, hb1]; rfl, ?_⟩
          obtain ⟨blk', hb1', hcl⟩ := mvblk id hm
          rw [hb1] at hb1'; cases hb1'
          exact hb2.ren (fun b hb => ⟨hb, rfl⟩) (fun k hk => ren1 k (hcl k hk)) (fun _ _ => rfl)
        · obtain ⟨id, hj, hid⟩ := hβc' hc
          obtain ⟨id', hj', ho'⟩ := ownsub ho
          rw [hj] at hj'; cases hj'
          have hm := List.mem_of_getElem? hj
          obtain ⟨a1, _, a3⟩ := gf.own id c b hid (by rw [hHf id hm]; exact ho') hb
          exact ⟨a1, fun hG => hG.2 ⟨id, c, hm, hid, hb, ho'⟩, a3⟩
        · obtain ⟨id, hj, hid⟩ := hβc' hc
          obtain ⟨id', hj', hid'⟩ := hβc' hc'
          obtain ⟨i1, hi1, ho1⟩ := ownsub ho
          obtain ⟨i2, hi2, ho2⟩ := ownsub ho'
          rw [hj] at hi1; cases hi1
          rw [hj'] at hi2; cases hi2
          have := g.uniq id id' c c' b hid hid' ho1 ho2 hb hb'
          subst this
          have e1 := idxOf_get (k := 0) hnodup hj
          have e2 := idxOf_get (k := 0) hnodup hj'
          rw [e1] at e2
          injection e2 with e2; omega
      have hpin : ∀ j, βc j ≠ none → j < moved.length := fun j hj => by
        cases hc : βc j with
        | none => exact absurd hc hj
        | some c =>
          obtain ⟨id, hj', _⟩ := hβc' hc
          rcases Nat.lt_or_ge j moved.length with hlt | hge
          · exact hlt
          · rw [List.getElem?_eq_none hge] at hj'; cases hj'
      have hargsV : RelVs Fc w βc (renL (fun id => (idxOf id moved 0).getD 0) as) vals := by
        have h2 : RelVs Fc w β as vals := exportAll_rel gf (by rw [exportAll_frz]; exact has) (hv.mono exf) (RowsF.unfilter (by rw [hln]; exact hRF))
        exact RelVs.ren (fun b hb => ⟨hb, rfl⟩) h2 (fun id hid => ren1 id (all_contains hargs hid))
      refine (hrun f _ _ _ r h1 n1 hr X' Fc w βc vals gc hpin hargsV).mono ?_
      rintro e w' ⟨v, F1, β1, rfl, g1, ex1, hp1, hp2, rv⟩
      refine ⟨v, rfl, ?_⟩
      -- behind the call
      generalize hfr : (hasRow lent && !(noSl r && (List.range n1).all fun j => noSlB (h1 j))) = fr at h
      have lowid : ∀ id ∈ moved, id < id0 := fun id hid => by
        have := List.all_eq_true.1 hlow id hid
        simpa using this
      have notnew : ∀ {id}, id0 ≤ id → id < id0 + (n1 - moved.length) → β id = none := fun {id} a b => fresh id a (by unfold W; omega)
      have FcF1 : ∀ b, Fc b → F1 b := fun b hb => (ex1.f b hb).1
      have FFc : ∀ b, F b → Fc b := fun b hb => (exf.f b hb).1
      have ownMoved : ∀ {b}, movedB b → ¬ Fc b ∧ ¬ X.G b := fun {b} hb => by
        obtain ⟨id, c, hm, hc, hcb, ho⟩ := hb
        obtain ⟨a1, a2, _⟩ := gf.own id c b hc (by rw [hHf id hm]; exact ho) hcb
        exact ⟨a1, a2⟩
      have FcG : ∀ b, Fc b → X'.G b := fun b hb => ⟨gf.fsz b hb, fun hm => (ownMoved hm).1 hb⟩
      have notG : ∀ b, ¬ X'.G b → ¬ X.G b := fun b hb hX => by
        have h1 := g.gsz b hX
        have h2 := g.size
        exact hb ⟨by omega, fun hm => (ownMoved hm).2 hX⟩
      let F2 : Nat → Prop := fun b => (if fr = true then Fc b else F b) ∨ (F1 b ∧ ¬ X'.G b)
      have F2F1 : ∀ b, F2 b → F1 b := fun b hb => by
        rcases hb with hb | hb
        · cases fr with
          | true => exact FcF1 b hb
          | false => exact FcF1 b (FFc b hb)
        · exact hb.1
      have FF2 : ∀ b, F b → F2 b := fun b hb => by
        left
        cases fr with
        | true => exact FFc b hb
        | false => exact hb
      let β2 : Nat → Option Conc := fun id => match idxOf id moved 0 with
        | some j => β1 j
        | none => if id0 ≤ id ∧ id < id0 + (n1 - moved.length) then β1 (moved.length + (id - id0)) else β id
      have Hm : ∀ {id j}, idxOf id moved 0 = some j → mergeH H h1 moved id0 n1 id = (h1 j).map (renB (backOf moved id0)) := fun {id j} hj => by unfold mergeH; rw [hj]
      have Hn : ∀ {id}, idxOf id moved 0 = none → id0 ≤ id ∧ id < id0 + (n1 - moved.length) → mergeH H h1 moved id0 n1 id = (h1 (moved.length + (id - id0))).map (renB (backOf moved id0)) := fun {id} hj hn => by unfold mergeH; rw [hj]; simp only; rw [if_pos hn]
      have Ho : ∀ {id}, idxOf id moved 0 = none → ¬ (id0 ≤ id ∧ id < id0 + (n1 - moved.length)) → mergeH H h1 moved id0 n1 id = H id := fun {id} hj hn => by unfold mergeH; rw [hj]; simp only; rw [if_neg hn]
      -- each told number is the callee's, or an old one
      have kinds : ∀ {id c}, β2 id = some c → (∃ k, β1 k = some c ∧ mergeH H h1 moved id0 n1 id = (h1 k).map (renB (backOf moved id0)) ∧ backOf moved id0 k = id ∧ id ∉ rowIds lent) ∨ (β id = some c ∧ mergeH H h1 moved id0 n1 id = H id ∧ id ∉ moved) := by
        intro id c hc
        change (match idxOf id moved 0 with | some j => β1 j | none => if id0 ≤ id ∧ id < id0 + (n1 - moved.length) then β1 (moved.length + (id - id0)) else β id) = some c at hc
        cases hj : idxOf id moved 0 with
        | some j =>
          rw [hj] at hc
          have hmv : moved[j]? = some id := by simpa using (idxOf_some hj).2
          exact .inl ⟨j, hc, Hm hj, by unfold backOf; rw [hmv], fun hl => lentid id hl (List.mem_of_getElem? hmv)⟩
        | none =>
          rw [hj] at hc
          simp only at hc
          split at hc
          · rename_i hn
            refine .inl ⟨_, hc, Hn hj hn, ?_, fun hl => ?_⟩
            · unfold backOf
              rw [List.getElem?_eq_none (by omega)]
              simp only; omega
            · obtain ⟨c', hc'⟩ := hlentβ id hl
              rw [notnew hn.1 hn.2] at hc'; cases hc'
          · rename_i hn
            exact .inr ⟨hc, Ho hj hn, idxOf_none hj⟩
      have back : ∀ k, ∀ c, β1 k = some c → β2 (backOf moved id0 k) = some c := fun k c hk => by
        have hkn := hp2 k (by rw [hk]; intro e; cases e)
        cases hmv : moved[k]? with
        | some id =>
          have hb : backOf moved id0 k = id := by unfold backOf; rw [hmv]
          rw [hb]
          show (match idxOf id moved 0 with | some j => β1 j | none => _) = some c
          rw [idxOf_get hnodup hmv, Nat.zero_add]
          exact hk
        | none =>
          have hb : backOf moved id0 k = id0 + (k - moved.length) := by unfold backOf; rw [hmv]
          have hge : moved.length ≤ k := by
            rcases Nat.lt_or_ge k moved.length with h | h
            · rw [List.getElem?_eq_getElem h] at hmv; cases hmv
            · exact h
          rw [hb]
          show (match idxOf (id0 + (k - moved.length)) moved 0 with | some j => β1 j | none => if id0 ≤ id0 + (k - moved.length) ∧ id0 + (k - moved.length) < id0 + (n1 - moved.length) then β1 (moved.length + (id0 + (k - moved.length) - id0)) else β (id0 + (k - moved.length))) = some c
          have hnm : idxOf (id0 + (k - moved.length)) moved 0 = none := by
            cases hj : idxOf (id0 + (k - moved.length)) moved 0 with
            | none => rfl
            | some j =>
              have := lowid _ (List.mem_of_getElem? (by simpa using (idxOf_some hj).2))
              omega
          rw [hnm]
          simp only
          rw [if_pos (by omega)]
          rw [show moved.length + (id0 + (k - moved.length) - id0) = k by omega]
          exact hk
      -- what the callee's data are for the caller
      have trV : ∀ {a v}, RelV F1 w' β1 a v → (fr = false → hasRow lent = true → noSl a = true) → RelV F2 w' β2 (renA (backOf moved id0) a) v := by
        intro a v hv hns
        by_cases hA : hasRow lent = true ∧ fr = false
        · exact RelV.ren (fun b hb => ⟨hb, rfl⟩) (RelV.noSl (F' := F2) (w' := w') hv (hns hA.2 hA.1)) (fun k _ c hk => back k c hk)
        · refine RelV.ren (fun b hb => ⟨?_, rfl⟩) hv (fun k _ c hk => back k c hk)
          rcases g1.fext b hb with h | h
          · left
            cases hfr' : fr with
            | true => simpa using h
            | false =>
              have : hasRow lent = false := by
                cases hh : hasRow lent with
                | false => rfl
                | true => exact absurd ⟨hh, hfr'⟩ hA
              simp only [Bool.false_eq_true, if_false]
              rw [← hFc0 this]; exact h
          · exact .inr ⟨hb, h⟩
      have trB : ∀ {c blk}, BRel F1 w' β1 c blk → (fr = false → hasRow lent = true → noSlB (some blk) = true) → BRel F2 w' β2 c (renB (backOf moved id0) blk) := by
        intro c blk hv hns
        by_cases hA : hasRow lent = true ∧ fr = false
        · exact (hv.noSl (F' := F2) (hns hA.2 hA.1)).ren (fun b hb => ⟨hb, rfl⟩) (fun k _ c hk => back k c hk) (fun _ _ => rfl)
        · refine hv.ren (fun b hb => ⟨?_, rfl⟩) (fun k _ c hk => back k c hk) (fun _ _ => rfl)
          rcases g1.fext b hb with h | h
          · left
            cases hfr' : fr with
            | true => simpa using h
            | false =>
              have : hasRow lent = false := by
                cases hh : hasRow lent with
                | false => rfl
                | true => exact absurd ⟨hh, hfr'⟩ hA
              simp only [Bool.false_eq_true, if_false]
              rw [← hFc0 this]; exact h
          · exact .inr ⟨hb, h⟩
      have nsl : fr = false → hasRow lent = true → noSl r = true ∧ ∀ j, j < n1 → noSlB (h1 j) = true := by
        intro e1 e2
        rw [e1, e2] at hfr
        simp only [Bool.true_and, Bool.not_eq_false', Bool.and_eq_true, List.all_eq_true, List.mem_range] at hfr
        exact ⟨hfr.1, fun j hj => hfr.2 j hj⟩
      -- old blocks are as they were
      have oldheap : ∀ {id c b}, β id = some c → c.b = some b → id ∉ moved → (∃ blk, H id = some blk ∧ blk ≠ .dead) → w'.heap[b]? = w.heap[b]? := by
        intro id c b hc hb hm hbl
        obtain ⟨blk, hbl, hbd⟩ := hbl
        refine g1.frame b ⟨g.inHeap hc (by rw [hbl]; intro e; injection e with e; exact hbd e) hb, fun hmb => ?_⟩
        obtain ⟨id', c', hm', hc', hb', ho'⟩ := hmb
        cases hown : ownB (H id) with
        | true =>
          have := g.uniq id id' c c' b hc hc' hown ho' hb hb'
          subst this
          exact hm hm'
        | false =>
          rw [hbl] at hown
          cases blk with
          | dead => exact hbd rfl
          | vars cs => cases hown
          | row t xs frz =>
            have hfz : frz = true := by simpa [ownB] using hown
            subst hfz
            obtain ⟨blk2, hb1, hb2⟩ := g.hr id c hc
            rw [hbl] at hb1; cases hb1
            exact (ownMoved ⟨id', c', hm', hc', hb', ho'⟩).1 (FFc b ((hb2.2.2.2 b hb).2.1 rfl))
      have exFF2 : Ext F w β F2 w' β2 := by
        refine ⟨fun b hb => ⟨FF2 b hb, cellsAt_of_heap (g1.frame b (FcG b (FFc b hb)))⟩, fun id c hc => ?_⟩
        show (match idxOf id moved 0 with | some j => β1 j | none => if id0 ≤ id ∧ id < id0 + (n1 - moved.length) then β1 (moved.length + (id - id0)) else β id) = some c
        cases hj : idxOf id moved 0 with
        | some j =>
          have hmv : moved[j]? = some id := by simpa using (idxOf_some hj).2
          simp only
          rw [hp1 j (by
            rcases Nat.lt_or_ge j moved.length with h | h
            · exact h
            · rw [List.getElem?_eq_none h] at hmv; cases hmv), hβc hmv]
          exact hc
        | none =>
          simp only
          rw [if_neg (fun hn => by rw [notnew hn.1 hn.2] at hc; cases hc)]
          exact hc
      have exfF2 : fr = true → Ext Fc w β F2 w' β2 := fun e => ⟨fun b hb => ⟨.inl (by rw [if_pos e]; exact hb), cellsAt_of_heap (g1.frame b (FcG b hb))⟩, exFF2.b⟩
      -- the heap that is handed back
      have hH' : ∀ id, H' id = if fr = true ∧ id ∈ rowIds lent then frzB (mergeH H h1 moved id0 n1 id) else mergeH H h1 moved id0 n1 id := by
        intro id
        simp only [Option.some.injEq, Prod.mk.injEq] at h
        obtain ⟨_, h, _⟩ := h
        rw [← h]
        cases fr with
        | true =>
          simp only [if_true]
          rw [freezeL_eq]
          simp only [List.contains_iff_mem, true_and]
        | false => simp
      have ownk : ∀ {id c b}, β2 id = some c → ownB (H' id) = true → c.b = some b → (∃ k, β1 k = some c ∧ ownB (h1 k) = true ∧ backOf moved id0 k = id) ∨ (β id = some c ∧ ownB (H id) = true ∧ id ∉ moved ∧ (fr = true → id ∉ rowIds lent)) := by
        intro id c b hc ho hb
        rw [hH'] at ho
        have nofr : ¬ (fr = true ∧ id ∈ rowIds lent) := fun hf => by
          rw [if_pos hf] at ho
          rcases kinds hc with ⟨k, _, _, _, hl⟩ | ⟨hc', hmh, _⟩
          · exact hl hf.2
          · -- a lent row is a row
            rw [hmh] at ho
            obtain ⟨t, xs, frz, hrow⟩ := lentRow id hf.2
            rw [hrow] at ho; cases ho
        rw [if_neg nofr] at ho
        rcases kinds hc with ⟨k, hk, hmh, hbk, _⟩ | ⟨hc', hmh, hm⟩
        · left
          rw [hmh] at ho
          refine ⟨k, hk, ?_, hbk⟩
          cases hb1 : h1 k with
          | none => rw [hb1] at ho; cases ho
          | some blk => rw [hb1] at ho; cases blk <;> simp [ownB, renB] at ho ⊢ <;> exact ho
        · right
          rw [hmh] at ho
          exact ⟨hc', ho, hm, fun e hl => nofr ⟨e, hl⟩⟩
      have hx : x = renA (backOf moved id0) r := by
        simp only [Option.some.injEq, Prod.mk.injEq] at h
        exact h.1.symm
      refine ⟨F2, β2, ?_, exFF2, ?_, ?_⟩
      · refine ⟨fun id c hc => ?_, fun id c b hc ho hb => ?_, fun id id' c c' b hc hc' ho ho' hb hb' => ?_, fun b hb => g1.fsz b (F2F1 b hb), fun b hb => ?_, fun b hb => FF2 b (g.fmono b hb), fun b hb => ?_, g.gsz, ?_, ⟨g1.tame.1.trans g.tame.1, g1.tame.2.trans g.tame.2⟩⟩
        · rcases kinds hc with ⟨k, hk, hmh, hbk, hl⟩ | ⟨hc', hmh, hm⟩
          · obtain ⟨blk, hb1, hb2⟩ := g1.hr k c hk
            rw [hH', if_neg (fun e => hl e.2), hmh, hb1]
            refine ⟨_, rfl, trB hb2 fun e1 e2 => ?_⟩
            have := (nsl e1 e2).2 k (hp2 k (by rw [hk]; intro e; cases e))
            rw [hb1] at this
            exact this
          · rw [hH', hmh]
            by_cases hf : fr = true ∧ id ∈ rowIds lent
            · rw [if_pos hf]
              obtain ⟨blk, hb1, hb2⟩ := gf.hr id c hc'
              rw [freezeL_eq, if_pos (by simpa using hf.2)] at hb1
              refine ⟨blk, hb1, hb2.mono (exfF2 hf.1) fun b hb => ?_⟩
              obtain ⟨t, xs, frz, hrow⟩ := lentRow id hf.2
              exact oldheap hc' hb hm ⟨_, hrow, by intro e; cases e⟩
            · rw [if_neg hf]
              obtain ⟨blk, hb1, hb2⟩ := g.hr id c hc'
              refine ⟨blk, hb1, ?_⟩
              by_cases hd : blk = .dead
              · subst hd; trivial
              · exact hb2.mono exFF2 fun b hb => oldheap hc' hb hm ⟨blk, hb1, hd⟩
        · rcases ownk hc ho hb with ⟨k, hk, hok, _⟩ | ⟨hc', ho', hm, hl⟩
          · obtain ⟨a1, a2, a3⟩ := g1.own k c b hk hok hb
            exact ⟨fun hF => a1 (F2F1 b hF), notG b a2, a3⟩
          · obtain ⟨a1, a2, a3⟩ := g.own id c b hc' ho' hb
            have hG : X'.G b := ⟨a3, fun hmb => by
              obtain ⟨id', c', hm', hc'', hb'', ho''⟩ := hmb
              have := g.uniq id id' c c' b hc' hc'' ho' ho'' hb hb''
              subst this
              exact hm hm'⟩
            refine ⟨fun hF => ?_, a2, ?_⟩
            · rcases hF with hF | hF
              · cases hfr' : fr with
                | true =>
                  rw [hfr'] at hF
                  simp only [if_true] at hF
                  have hl' := hl hfr'
                  exact (gf.own id c b hc' (by rw [freezeL_eq, if_neg (by simpa using hl')]; exact ho') hb).1 hF
                | false =>
                  rw [hfr'] at hF
                  simp only [Bool.false_eq_true, if_false] at hF
                  exact a1 hF
              · exact hF.2 hG
            · have := g1.size
              change w.heap.size ≤ w'.heap.size at this
              omega
        · rcases ownk hc ho hb with ⟨k, hk, hok, hbk⟩ | ⟨hc1, ho1, hm1, _⟩
          · rcases ownk hc' ho' hb' with ⟨k', hk', hok', hbk'⟩ | ⟨hc2, ho2, hm2, _⟩
            · have := g1.uniq k k' c c' b hk hk' hok hok' hb hb'
              rw [← hbk, ← hbk', this]
            · exfalso
              obtain ⟨_, a2, _⟩ := g1.own k c b hk hok hb
              refine a2 ⟨(g.own id' c' b hc2 ho2 hb').2.2, fun hmb => ?_⟩
              obtain ⟨id3, c3, hm3, hc3, hb3, ho3⟩ := hmb
              have := g.uniq id' id3 c' c3 b hc2 hc3 ho2 ho3 hb' hb3
              subst this
              exact hm2 hm3
          · rcases ownk hc' ho' hb' with ⟨k', hk', hok', hbk'⟩ | ⟨hc2, ho2, hm2, _⟩
            · exfalso
              obtain ⟨_, a2, _⟩ := g1.own k' c' b hk' hok' hb'
              refine a2 ⟨(g.own id c b hc1 ho1 hb).2.2, fun hmb => ?_⟩
              obtain ⟨id3, c3, hm3, hc3, hb3, ho3⟩ := hmb
              have := g.uniq id id3 c c3 b hc1 hc3 ho1 ho3 hb hb3
              subst this
              exact hm1 hm3
            · exact g.uniq id id' c c' b hc1 hc2 ho1 ho2 hb hb'
        · rcases hb with hb | hb
          · cases hfr' : fr with
            | true =>
              rw [hfr'] at hb
              simp only [if_true] at hb
              exact gf.fext b hb
            | false =>
              rw [hfr'] at hb
              simp only [Bool.false_eq_true, if_false] at hb
              exact g.fext b hb
          · exact .inr (notG b hb.2)
        · have h2 := g.gsz b hb
          have h3 := g.size
          exact (g1.frame b ⟨by omega, fun hm => (ownMoved hm).2 hb⟩).trans (g.frame b hb)
        · have := g1.size
          change w.heap.size ≤ w'.heap.size at this
          have := g.size
          omega
      · rw [hx]
        exact trV rv fun e1 e2 => (nsl e1 e2).1
      · intro id hne
        cases hc : β2 id with
        | none => exact absurd hc hne
        | some c =>
          change (match idxOf id moved 0 with | some j => β1 j | none => if id0 ≤ id ∧ id < id0 + (n1 - moved.length) then β1 (moved.length + (id - id0)) else β id) = some c at hc
          cases hj : idxOf id moved 0 with
          | some j =>
            rw [hj] at hc
            simp only at hc
            have hmv : moved[j]? = some id := by simpa using (idxOf_some hj).2
            left
            rw [hp1 j (by
              rcases Nat.lt_or_ge j moved.length with h | h
              · exact h
              · rw [List.getElem?_eq_none h] at hmv; cases hmv), hβc hmv] at hc
            rw [hc]; intro e; cases e
          | none =>
            rw [hj] at hc
            simp only at hc
            split at hc
            · rename_i hn
              right
              exact ⟨hn.1, by unfold W; omega⟩
            · left; rw [hc]; intro e; cases e
    · cases h
  · cases h

end
end Go.LM
