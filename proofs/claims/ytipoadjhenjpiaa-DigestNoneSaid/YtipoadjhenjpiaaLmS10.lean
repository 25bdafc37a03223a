/- LM: building values, new blocks by operations. -/
import Derived.Test.YtipoadjhenjpiaaLmS9
set_option linter.unusedVariables false
set_option linter.unusedSimpArgs false
namespace Go.LM

section
variable {P : Program} {F : Nat → Prop} {w : World} {β : Nat → Option Conc}

theorem fill_fold : ∀ (us : List Value) (k off : Nat) (cs : Array Value), off + k + us.length ≤ cs.size → ((us.zipIdx k).foldl (fun cs (p : Value × Nat) => cs.setIfInBounds (off + p.2) p.1) cs).toList = splice cs.toList (off + k) us
  | [], k, off, cs, h => by simp [splice]
  | v :: us, k, off, cs, h => by
    simp only [List.length_cons] at h
    rw [List.zipIdx_cons, List.foldl_cons, fill_fold us (k + 1) off _ (by simp; omega)]
    apply List.ext_getElem?
    intro j
    rw [splice_get _ _ _ (by simp; omega), splice_get _ _ _ (by simp; omega)]
    simp only [List.length_cons, Array.toList_setIfInBounds]
    by_cases c1 : j < off + k
    · rw [if_pos (show j < off + (k + 1) by omega), if_pos c1, List.getElem?_set_ne (by omega)]
    · rw [if_neg c1]
      by_cases c2 : j = off + k
      · subst c2
        rw [if_pos (show off + k < off + (k + 1) by omega), if_pos (by omega), List.getElem?_set_self (by simp; omega)]
        simp
      · rw [if_neg (show ¬ j < off + (k + 1) by omega)]
        by_cases c3 : j < off + (k + 1) + us.length
        · rw [if_pos c3, if_pos (by omega), show j - (off + k) = (j - (off + (k + 1))) + 1 by omega, List.getElem?_cons_succ]
        · rw [if_neg c3, if_neg (by omega), List.getElem?_set_ne (by omega)]

theorem fill_step {place : Nat → Option (Nat × Nat)} {cs : Array Value} {i off size : Nat} {v : Value} {rest : List (Nat × Value)} (hp : place i = some (off, size)) (hv : v.cells.size = size) (hle : off + size ≤ cs.size) :
    ∃ cs', cs'.toList = splice cs.toList off v.cells.toList ∧ Instr.fill place cs ((i, v) :: rest) = Instr.fill place cs' rest := by
  refine ⟨v.cells.zipIdx.foldl (fun cs (c, j) => cs.setIfInBounds (off + j) c) cs, ?_, ?_⟩
  · rw [← Array.foldl_toList, Array.toList_zipIdx]
    have := fill_fold v.cells.toList 0 off cs (by simp; omega)
    rw [Nat.add_zero] at this
    exact this
  · simp only [Instr.fill, hp]
    rw [if_neg]
    simp [hv]; omega

/-- Values beside abstract values, place by place. -/
def RelParts (F : Nat → Prop) (w : World) (β : Nat → Option Conc) : List (Nat × AV) → List (Nat × Value) → Prop
  | [], [] => True
  | (i, a) :: l, (j, v) :: l' => i = j ∧ RelV F w β a v ∧ RelParts F w β l l'
  | _, _ => False

theorem setParts_fill {S : TypeId} {fs : Array Field} (hS : P.underlying S = some (.struct fs)) {places : List (Nat × Nat)} (hp : ∀ (i : Nat) (fd : Field), fs[i]? = some fd → places[i]? = some (fd.offset, P.cellsOf fd.type)) :
    ∀ (ps : List (Nat × AV)) (qs : List (Nat × Value)) (cs cs' : List AV) (vs : Array Value), RelParts F w β ps qs → setParts P S ps cs = some cs' → RelCs F w β cs vs.toList →
    ∃ arr, Instr.fill (places.toArray[·]?) vs qs = some arr ∧ RelCs F w β cs' arr.toList
  | [], [], cs, cs', vs, _, h, hr => by simp only [setParts] at h; cases h; exact ⟨vs, rfl, hr⟩
  | (i, a) :: ps, (j, v) :: qs, cs, cs', vs, hpq, h, hr => by
    obtain ⟨rfl, ha, hpq⟩ := hpq
    simp only [setParts] at h
    cases h1 : setPart P S cs i a with
    | none => rw [h1] at h; cases h
    | some cs1 =>
      rw [h1] at h
      simp only [Option.bind_some] at h
      unfold setPart at h1
      split at h1
      · rename_i fd hfd
        obtain ⟨fs', hS', hfs⟩ := fieldOf_some hfd
        rw [hS] at hS'; cases hS'
        split at h1
        · rename_i hsz
          have hval := ha.leaves' (isVal_of_cells hsz.1 hsz.2)
          have hvlen : v.cells.toList.length = P.cellsOf fd.type := by rw [hval.len]; exact hsz.1
          obtain ⟨h2, h3⟩ := putL_rel _ _ _ _ _ _ _ h1 hr hval hvlen
          obtain ⟨arr1, h4, h5⟩ := fill_step (place := (places.toArray[·]?)) (cs := vs) (rest := qs) (i := i) (v := v) (by simpa using hp i fd hfs) (by simpa using hvlen) (by simpa using h2)
          rw [← h4] at h3
          obtain ⟨arr, h6, h7⟩ := setParts_fill hS hp ps qs cs1 cs' arr1 hpq h h3
          exact ⟨arr, by rw [h5]; exact h6, h7⟩
        · cases h1
      · cases h1
  | [], _ :: _, _, _, _, hpq, _, _ => hpq.elim
  | _ :: _, [], _, _, _, hpq, _, _ => hpq.elim

theorem places_some : ∀ (fs : List Field), (fs.all fun f => (P.info? f.type).isSome) = true → ∃ places, fs.mapM (fun f => (P.info? f.type).map fun i => (f.offset, i.size)) = some places ∧
    ∀ (i : Nat) (fd : Field), fs[i]? = some fd → places[i]? = some (fd.offset, P.cellsOf fd.type)
  | [], _ => ⟨[], rfl, fun i fd h => by simp at h⟩
  | f :: fs, h => by
    simp only [List.all_cons, Bool.and_eq_true] at h
    obtain ⟨places, h1, h2⟩ := places_some fs h.2
    cases hi : P.info? f.type with
    | none => rw [hi] at h; simp at h
    | some inf =>
      refine ⟨(f.offset, inf.size) :: places, ?_, fun i fd hf => ?_⟩
      · simp [List.mapM_cons, hi, h1]
      · cases i with
        | zero => simp at hf; subst hf; simp [cellsOf_info hi]
        | succ i => simp at hf ⊢; exact h2 i fd hf

/-- Elements laid into a list. -/
theorem setElems_fill {X H} (g : Good X F w β H) {t : Ty} {n : Nat} : ∀ (ps : List (Nat × AV)) (qs : List (Nat × Value)) (xs ys : List t.D) (vs : Array Value), RelParts F w β ps qs → setElems H t ps xs = some ys →
    rep F w (.ar n t) xs vs.toList → (∀ p ∈ ps, RowsF F β H p.2.leaves) → (∀ p ∈ ps, p.1 < n) → ∃ arr, Instr.fill (fun i => some (i * t.sz, t.sz)) vs qs = some arr ∧ rep F w (.ar n t) ys arr.toList
  | [], [], xs, ys, vs, _, h, hr, _, _ => by simp only [setElems] at h; cases h; exact ⟨vs, rfl, hr⟩
  | (i, a) :: ps, (j, v) :: qs, xs, ys, vs, hpq, h, hr, hF, hn => by
    obtain ⟨rfl, ha, hpq⟩ := hpq
    simp only [setElems] at h
    cases h1 : pack H true t a with
    | none => rw [h1] at h; cases h
    | some x =>
      rw [h1] at h
      simp only [Option.bind_some] at h
      have h2 := pack_rep g h1 ha (fun _ => hF (i, a) (List.mem_cons_self ..))
      have hlen := rep_len _ _ _ h2
      have hi : i < n := hn (i, a) (List.mem_cons_self ..)
      have h3 := ar_set hr hi h2
      obtain ⟨_, h4, _⟩ := rep_ar_iff.1 hr
      have hm : (i + 1) * t.sz ≤ n * t.sz := Nat.mul_le_mul_right _ hi
      rw [Nat.add_mul] at hm
      obtain ⟨arr1, h5, h6⟩ := fill_step (place := fun i => some (i * t.sz, t.sz)) (cs := vs) (rest := qs) (i := i) (v := v) rfl (by simpa using hlen) (by simp at h4; omega)
      rw [← h5] at h3
      obtain ⟨arr, h7, h8⟩ := setElems_fill g ps qs _ ys arr1 hpq h h3 (fun p hp => hF p (List.mem_cons_of_mem _ hp)) (fun p hp => hn p (List.mem_cons_of_mem _ hp))
      exact ⟨arr, by rw [h6]; exact h7, h8⟩
  | [], _ :: _, _, _, _, hpq, _, _, _, _ => hpq.elim
  | _ :: _, [], _, _, _, hpq, _, _, _, _ => hpq.elim

theorem hasRow_none {H : Heap} : ∀ {l : List AV}, hasRow l = false → RowsF F β H l
  | [], _ => fun id h => by rcases h with h | ⟨_, _, _, h⟩ <;> cases h
  | a :: l, h => by
    have hl : hasRow l = false ∧ (∀ id, a ≠ .full id) ∧ ∀ id off lo hi, a ≠ .sub id off lo hi := by
      cases a <;> simp_all [hasRow]
    intro id hid
    rcases hid with hid | ⟨off, lo, hi, hid⟩
    · rcases List.mem_cons.1 hid with e | e
      · exact absurd e.symm (hl.2.1 id)
      · exact hasRow_none hl.1 id (.inl e)
    · rcases List.mem_cons.1 hid with e | e
      · exact absurd e.symm (hl.2.2 id off lo hi)
      · exact hasRow_none hl.1 id (.inr ⟨off, lo, hi, e⟩)

theorem sim_build {X H} (g : Good X F w β H) {T : TypeId} {ps : List (Nat × AV)} {v : AV} (h : exBuild P H T ps = some v) {qs : Array (Nat × Value)} (hpq : RelParts F w β ps qs.toList) :
    ∃ r, (Instr.build T qs).run P w = .ok r w ∧ RelV F w β v r := by
  unfold exBuild at h
  split at h
  · rename_i fs hT
    split at h
    · rename_i hall
      cases hz : zeroL P T with
      | none => rw [hz] at h; cases h
      | some z =>
        rw [hz] at h
        simp only [Option.bind_some] at h
        cases hs : setParts P T ps z with
        | none => rw [hs] at h; cases h
        | some cs =>
          rw [hs] at h; cases h
          obtain ⟨zv, hzv, hzr⟩ := zeroL_rel (F := F) (w := w) (β := β) hz
          obtain ⟨_, i, hi, hiz⟩ := zero_run (w := w) hzv
          obtain ⟨places, hp1, hp2⟩ := places_some fs.toList hall
          obtain ⟨arr, h1, h2⟩ := setParts_fill hT (fun i fd hf => hp2 i fd (by simpa using hf)) ps qs.toList z cs zv.cells hpq hs hzr
          refine ⟨.agg arr, run_build w T qs arr ?_, ?_⟩
          · unfold Program.built
            rw [hi, hT]
            simp only [hiz, hp1]
            exact h1
          · have := RelV.many (F := F) (w := w) (β := β) (.agg cs) arr.toList rfl (.agg _ _ h2)
            simpa using this
    · cases h
  · rename_i n e hT
    cases ht : tyC P e with
    | none => rw [ht] at h; cases h
    | some t =>
      rw [ht] at h
      simp only [Option.bind_some] at h
      split at h
      · cases h
      · rename_i hrows
        cases hz : zeroD P T (.ar n t) with
        | none => rw [hz] at h; cases h
        | some z =>
          rw [hz] at h
          simp only [Option.bind_some] at h
          split at h
          · rename_i hidx
            cases hs : setElems H t ps z with
            | none => rw [hs] at h; cases h
            | some xs =>
              rw [hs] at h; cases h
              obtain ⟨zv, hzv, hzr⟩ := zeroD_rep (F := F) (w := w) hz
              obtain ⟨_, i, hi, hiz⟩ := zero_run (w := w) hzv
              obtain ⟨_, ⟨ie, hie⟩, hsz, _, _⟩ := tyC_some ht
              obtain ⟨arr, h1, h2⟩ := setElems_fill g ps qs.toList z xs zv.cells hpq hs hzr (fun p hp => hasRow_none (by
                simp only [List.any_eq_true, not_exists, not_and, Bool.not_eq_true] at hrows
                exact hrows p hp)) (fun p hp => by
                simp only [List.all_eq_true, decide_eq_true_eq] at hidx
                exact hidx p hp)
              refine ⟨.agg arr, run_build w T qs arr ?_, ?_⟩
              · unfold Program.built
                rw [hi, hT]
                simp only [hiz, hie]
                rw [← cellsOf_info hie, hsz]
                exact h1
              · have := RelV.many (F := F) (w := w) (β := β) (.dat (.ar n t) xs) arr.toList rfl (.dat _ _ _ h2)
                simpa using this
          · cases h
  · cases h
end
end Go.LM
