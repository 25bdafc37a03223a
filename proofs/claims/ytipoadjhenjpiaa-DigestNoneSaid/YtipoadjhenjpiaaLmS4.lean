/- LM: memory: leaves, arrays; what is read and written in a world. -/
import Derived.Test.YtipoadjhenjpiaaLmS3
set_option linter.unusedVariables false
set_option linter.unusedSimpArgs false
namespace Go.LM

section
variable {P : Program} {F : Nat → Prop} {w : World} {β : Nat → Option Conc}

theorem takeL_rel : ∀ (cs : List AV) (off n : Nat) (l : List AV) (vs : List Value), takeL cs off n = some l → RelCs F w β cs vs →
    off + n ≤ vs.length ∧ RelCs F w β l ((vs.drop off).take n)
  | [], off, n, l, vs, h, hr => by
    cases hr
    simp only [takeL] at h
    split at h
    · rename_i e; obtain ⟨rfl, rfl⟩ := e; cases h; exact ⟨by simp, .nil⟩
    · cases h
  | a :: cs, off, n, l, _, h, .cons _ _ us vs h1 h2 h3 => by
    simp only [takeL] at h
    split at h
    · rename_i e; subst e
      split at h
      · rename_i e; subst e; cases h; exact ⟨by simp, .nil⟩
      · split at h
        · rename_i hle
          cases ht : takeL cs 0 (n - a.csz) with
          | none => rw [ht] at h; cases h
          | some l' =>
            rw [ht] at h; cases h
            obtain ⟨h4, h5⟩ := takeL_rel cs 0 _ l' vs ht h3
            refine ⟨by simp; omega, ?_⟩
            rw [List.drop_zero, List.take_append, List.take_of_length_le (by omega), h2]
            exact .cons _ _ us _ h1 h2 (by simpa using h5)
        · cases h
    · split at h
      · obtain ⟨h4, h5⟩ := takeL_rel cs _ _ l vs h h3
        refine ⟨by simp; omega, ?_⟩
        rwa [List.drop_append, List.drop_of_length_le (by omega), List.nil_append, h2]
      · cases h

theorem putL_rel : ∀ (cs : List AV) (off n : Nat) (ns : List AV) (l : List AV) (vs us : List Value), putL cs off n ns = some l → RelCs F w β cs vs → RelCs F w β ns us → us.length = n →
    off + n ≤ vs.length ∧ RelCs F w β l (splice vs off us)
  | [], off, n, ns, l, vs, us, h, hr, hn, hu => by
    cases hr
    simp only [putL] at h
    split at h
    · rename_i e; obtain ⟨rfl, rfl⟩ := e; cases h; exact ⟨by simp, by simpa [splice] using hn⟩
    · cases h
  | a :: cs, off, n, ns, l, _, us, h, .cons _ _ ws vs h1 h2 h3, hn, hu => by
    simp only [putL] at h
    split at h
    · rename_i e; subst e
      split at h
      · rename_i e; subst e; cases h
        refine ⟨by simp, ?_⟩
        have : us = [] := List.eq_nil_of_length_eq_zero hu
        subst this
        simpa [splice] using hn.append (.cons _ _ ws vs h1 h2 h3)
      · split at h
        · rename_i hle
          have hdrop : ∀ zs : List Value, zs.length = n - a.csz → True := fun _ _ => trivial
          -- leaves that go are left out: what is laid in has their cells
          have key : ∀ (cs : List AV) (m : Nat) (l : List AV) (vs : List Value), putL cs 0 m ns = some l → RelCs F w β cs vs → m ≤ vs.length ∧ RelCs F w β l (us ++ vs.drop m) := by
            intro cs
            induction cs with
            | nil =>
              intro m l vs h hr
              cases hr
              simp only [putL] at h
              split at h
              · rename_i e; obtain ⟨_, rfl⟩ := e; cases h; exact ⟨by simp, by simpa using hn⟩
              · cases h
            | cons a cs ih =>
              intro m l vs h hr
              cases hr with
              | cons _ _ ws vs h1 h2 h3 =>
              simp only [putL, if_true] at h
              split at h
              · rename_i e; subst e; cases h
                exact ⟨by simp, by simpa using hn.append (.cons _ _ ws vs h1 h2 h3)⟩
              · split at h
                · obtain ⟨h4, h5⟩ := ih _ _ _ h h3
                  refine ⟨by simp; omega, ?_⟩
                  rwa [List.drop_append, List.drop_of_length_le (by omega), List.nil_append, h2]
                · cases h
          obtain ⟨h4, h5⟩ := key cs _ l vs h h3
          refine ⟨by simp; omega, ?_⟩
          unfold splice
          rw [List.take_zero, List.nil_append, hu, Nat.zero_add, List.drop_append, List.drop_of_length_le (by omega), List.nil_append, h2]
          exact h5
        · cases h
    · split at h
      · cases ht : putL cs (off - a.csz) n ns with
        | none => rw [ht] at h; cases h
        | some l' =>
          rw [ht] at h; cases h
          obtain ⟨h4, h5⟩ := putL_rel cs _ _ ns l' vs us ht h3 hn hu
          refine ⟨by simp; omega, ?_⟩
          have : splice (ws ++ vs) off us = ws ++ splice vs (off - a.csz) us := by
            unfold splice
            rw [List.take_append, List.take_of_length_le (by omega), List.drop_append, List.drop_of_length_le (by omega), h2, List.nil_append, List.append_assoc]
            congr 4; omega
          rw [this]
          exact .cons _ _ ws _ h1 h2 h5
      · cases h

theorem leafAt_rel : ∀ (cs : List AV) (off : Nat) (a : AV) (vs : List Value), leafAt cs off = some a → RelCs F w β cs vs →
    off + a.csz ≤ vs.length ∧ RelC F w β a ((vs.drop off).take a.csz)
  | [], _, _, _, h, _ => by cases h
  | x :: cs, off, a, _, h, .cons _ _ us vs h1 h2 h3 => by
    simp only [leafAt] at h
    split at h
    · rename_i e; subst e; cases h
      refine ⟨by simp; omega, ?_⟩
      rw [List.drop_zero, List.take_append_of_le_length (by omega), List.take_of_length_le (by omega)]
      exact h1
    · split at h
      · obtain ⟨h4, h5⟩ := leafAt_rel cs _ a vs h h3
        refine ⟨by simp; omega, ?_⟩
        rwa [List.drop_append, List.drop_of_length_le (by omega), List.nil_append, h2]
      · cases h

theorem leafAt_sh : ∀ (cs : List AV) (off : Nat) (a : AV), leafAt cs off = some a → flat cs = true → shArr (cs.map leafSh) off = leafSh a
  | [], _, _, h, _ => by cases h
  | x :: cs, off, a, h, hf => by
    simp only [leafAt] at h
    simp only [flat, List.all_cons, Bool.and_eq_true, beq_iff_eq] at hf
    simp only [List.map_cons, shArr]
    split at h
    · rename_i e; subst e; cases h; simp
    · rename_i e
      rw [if_neg e, hf.1]
      split at h
      · rename_i hle
        rw [if_pos hle]
        exact leafAt_sh cs _ a h hf.2
      · cases h

theorem setLeaf_rel : ∀ (cs : List AV) (off : Nat) (a v : AV) (cs' : List AV) (vs us : List Value), leafAt cs off = some a → setLeaf cs off v = some cs' → RelCs F w β cs vs → RelC F w β v us → us.length = v.csz → v.csz = a.csz →
    RelCs F w β cs' (splice vs off us)
  | [], _, _, _, _, _, _, h, _, _, _, _, _ => by cases h
  | x :: cs, off, a, v, cs', _, us, h, h', .cons _ _ ws vs h1 h2 h3, hv, hu, he => by
    simp only [leafAt] at h
    simp only [setLeaf] at h'
    split at h
    · rename_i e; subst e; cases h
      rw [if_pos rfl] at h'; cases h'
      have : splice (ws ++ vs) 0 us = us ++ vs := by
        unfold splice
        rw [List.take_zero, List.nil_append, Nat.zero_add, List.drop_append, List.drop_of_length_le (by omega), List.nil_append, show us.length - ws.length = 0 by omega, List.drop_zero]
      rw [this]
      exact .cons _ _ us _ hv hu h3
    · rename_i e
      rw [if_neg e] at h'
      split at h
      · rename_i hle
        rw [if_pos hle] at h'
        cases ht : setLeaf cs (off - x.csz) v with
        | none => rw [ht] at h'; cases h'
        | some l =>
          rw [ht] at h'; cases h'
          have ih := setLeaf_rel cs _ a v l vs us h ht h3 hv hu he
          have : splice (ws ++ vs) off us = ws ++ splice vs (off - x.csz) us := by
            unfold splice
            rw [List.take_append, List.take_of_length_le (by omega), List.drop_append, List.drop_of_length_le (by omega), h2, List.nil_append, List.append_assoc]
            congr 4; omega
          rw [this]
          exact .cons _ _ ws _ h1 h2 ih
      · cases h

theorem setLeaf_sh : ∀ (cs : List AV) (off : Nat) (a v : AV) (cs' : List AV), leafAt cs off = some a → setLeaf cs off v = some cs' → leafSh v = leafSh a → v.csz = a.csz →
    cs'.map leafSh = cs.map leafSh ∧ flat cs' = flat cs
  | [], _, _, _, _, h, _, _, _ => by cases h
  | x :: cs, off, a, v, cs', h, h', hs, he => by
    simp only [leafAt] at h
    simp only [setLeaf] at h'
    split at h
    · rename_i e; subst e; cases h
      rw [if_pos rfl] at h'; cases h'
      exact ⟨by simp [hs], by simp [flat, hs, he]⟩
    · rename_i e
      rw [if_neg e] at h'
      split at h
      · rename_i hle
        rw [if_pos hle] at h'
        cases ht : setLeaf cs (off - x.csz) v with
        | none => rw [ht] at h'; cases h'
        | some l =>
          rw [ht] at h'; cases h'
          obtain ⟨h1, h2⟩ := setLeaf_sh cs _ a v l h ht hs he
          refine ⟨by simp [h1], ?_⟩
          unfold flat at h2 ⊢
          simp [h2]
      · cases h

/-- Elements, one behind the other. -/
theorem rep_ar_iff {n : Nat} {e : Ty} {xs : List e.D} {vs : List Value} : rep F w (.ar n e) xs vs ↔ xs.length = n ∧ vs.length = n * e.sz ∧
    ∀ i (h : i < xs.length), rep F w e (xs[i]) ((vs.drop (i * e.sz)).take e.sz) := by
  simp only [rep]; rfl

/-- An array or a row that is read. -/
theorem arrAt_rel {X H} (g : Good X F w β H) {id off : Nat} {t : Ty} {xs : List t.D} (h : arrAt H id off = some ⟨t, xs⟩) {c : Conc} (hc : β id = some c) :
    arrSh c.sh off = some (xs.length, t) ∧ (∀ b, c.b = some b → ∃ l, cellsAt w b = some l ∧ off + xs.length * t.sz ≤ l.length ∧ rep F w (.ar xs.length t) xs ((l.drop off).take (xs.length * t.sz)))
      ∧ (c.b = none → xs = []) := by
  obtain ⟨blk, h1, h2⟩ := g.hr id c hc
  unfold arrAt at h
  rw [h1] at h
  cases blk with
  | dead => cases h
  | row u ys fr =>
    simp only at h
    split at h
    · rename_i e; subst e; cases h
      obtain ⟨h3, h4, h5, h6⟩ := h2
      refine ⟨by rw [h3]; rfl, fun b hb => ?_, fun e => (h5 e).1⟩
      obtain ⟨⟨l, hl, hsz, hr⟩, _⟩ := h6 b hb
      have hm : xs.length * t.sz ≤ c.cap * t.sz := Nat.mul_le_mul_right _ h4
      refine ⟨l, hl, by omega, ?_⟩
      rw [rep_ar_iff]
      refine ⟨rfl, by simp; omega, fun i hi => ?_⟩
      have hm2 : (i + 1) * t.sz ≤ xs.length * t.sz := Nat.mul_le_mul_right _ hi
      rw [Nat.add_mul] at hm2
      rw [seg_seg _ (show i * t.sz + t.sz ≤ xs.length * t.sz by omega), Nat.zero_add]
      exact hr i hi
    · cases h
  | vars cs =>
    simp only at h
    split at h
    · rename_i n t' ys hl
      cases h
      obtain ⟨⟨h3, hf⟩, b, hb, ⟨l, hcl, hrel⟩, h6⟩ := h2
      obtain ⟨h7, h8⟩ := leafAt_rel _ _ _ _ hl hrel
      cases h8 with
      | dat _ _ _ hr =>
      have hlen := (rep_ar_iff.1 hr).1
      have hsh := leafAt_sh _ _ _ hl hf
      refine ⟨?_, fun b' hb' => ?_, fun e => by rw [hb] at e; cases e⟩
      · rw [h3]; show shArr _ _ = _; rw [hsh]; simp [leafSh, hlen]
      · rw [hb] at hb'; cases hb'
        refine ⟨l, hcl, ?_, ?_⟩
        · rw [hlen]; exact h7
        · rw [hlen]; exact hr
    · cases h

/-! ### worlds -/
theorem cell_of_cellsAt {b : Nat} {l : List Value} (h : cellsAt w b = some l) (o : Nat) : w.cell? ⟨b, o, none⟩ = l[o]? := by
  unfold cellsAt at h
  unfold World.cell?
  split at h
  · rename_i c T f hc
    cases h
    simp [hc]
  · cases h

theorem addr_add (b o n : Nat) : (Addr.add ⟨b, o, none⟩ n) = ⟨b, o + n, none⟩ := by
  unfold Addr.add; split <;> simp_all

theorem load_run {b o n : Nat} {vs : List Value} (h : At w b o n vs) : (loadCells ⟨b, o, none⟩ n).run P w = .ok vs.toArray w := by
  have hl := h.len
  obtain ⟨l, h1, h2, rfl⟩ := h
  have := run_loadCells_list (P := P) w ⟨b, o, none⟩ ((l.drop o).take n) (fun j v hj => by
    rw [addr_add, cell_of_cellsAt h1]
    rw [seg_get] at hj
    split at hj
    · exact hj
    · cases hj)
  rw [hl] at this
  exact this

theorem cell_run {b o : Nat} {v : Value} (h : At w b o 1 [v]) : (load ⟨b, o, none⟩).run P w = .ok v w := by
  obtain ⟨l, h1, h2, h3⟩ := h
  have : w.cell? ⟨b, o, none⟩ = some v := by
    rw [cell_of_cellsAt h1]
    have := congrArg (fun z => z[0]?) h3
    simp only [seg_get] at this
    simpa using this.symm
  simp [load, Sem.run, this]

theorem heap_setCell (b o : Nat) (v : Value) (b' : Nat) (h : b' ≠ b) : (w.setCell ⟨b, o, none⟩ v).heap[b']? = w.heap[b']? := by
  simp only [World.setCell]
  rw [Array.getElem?_modify, if_neg (Ne.symm h)]
theorem size_setCell (a : Addr) (v : Value) : (w.setCell a v).heap.size = w.heap.size := by simp [World.setCell]
theorem cellsAt_setCell {b o : Nat} {v : Value} {l : List Value} (h : cellsAt w b = some l) : cellsAt (w.setCell ⟨b, o, none⟩ v) b = some (l.set o v) := by
  unfold cellsAt at h ⊢
  split at h
  · rename_i c T f hc
    cases h
    simp only [World.setCell]
    rw [Array.getElem?_modify, if_pos rfl, hc]
    simp
  · cases h
theorem frozen_setCell (a : Addr) (v : Value) (b o : Nat) : (w.setCell a v).frozen? ⟨b, o, none⟩ = w.frozen? ⟨b, o, none⟩ := by
  unfold World.frozen? World.setCell
  simp only [Array.getElem?_modify]
  by_cases e : a.block = b
  · subst e
    rw [if_pos rfl]
    cases h : w.heap[a.block]? with
    | none => simp
    | some x => cases x <;> simp
  · rw [if_neg e]

/-- Cells that are written. -/
theorem store_run : ∀ (us : List Value) (w : World) (b o i : Nat) (l : List Value), cellsAt w b = some l → o + i + us.length ≤ l.length → (∀ k, w.frozen? ⟨b, o + i + k, none⟩ = true → us.length ≤ k) → (∀ v ∈ us, v.oneCell' = true) →
    ∃ w', (storeCells ⟨b, o, none⟩ us i).run P w = .ok () w' ∧ w'.heap.size = w.heap.size ∧ (∀ b', b' ≠ b → w'.heap[b']? = w.heap[b']?) ∧ cellsAt w' b = some (splice l (o + i) us) ∧
      (∀ b' o', w'.frozen? ⟨b', o', none⟩ = w.frozen? ⟨b', o', none⟩) ∧ w'.os = w.os ∧ w'.output = w.output
  | [], w, b, o, i, l, h, hle, hz, hv => ⟨w, by simp [storeCells, pure, Sem.run], rfl, fun _ _ => rfl, by rw [h]; simp [splice], fun _ _ => rfl, rfl, rfl⟩
  | v :: us, w, b, o, i, l, h, hle, hz, hv => by
    have h1 : cellsAt (w.setCell ⟨b, o + i, none⟩ v) b = some (l.set (o + i) v) := cellsAt_setCell h
    simp only [List.length_cons] at hle
    obtain ⟨w', a1, a2, a3, a4, a5, a6⟩ := store_run us (w.setCell ⟨b, o + i, none⟩ v) b o (i + 1) _ h1 (by simp; omega) (fun k hk => by
      rw [frozen_setCell, show o + (i + 1) + k = o + i + (k + 1) by omega] at hk
      have := hz (k + 1) hk
      simpa using this) (fun u hu => hv u (by simp [hu]))
    refine ⟨w', ?_, a2.trans (size_setCell _ _), fun b' hb' => (a3 b' hb').trans (heap_setCell _ _ _ _ hb'), ?_, fun b' o' => (a5 b' o').trans (frozen_setCell _ _ _ _), a6⟩
    · have hc : w.cell? ⟨b, o + i, none⟩ = some (l[o + i]'(by omega)) := by rw [cell_of_cellsAt h, List.getElem?_eq_getElem]
      have hf : w.frozen? ⟨b, o + i, none⟩ = false := by
        cases hb : w.frozen? ⟨b, o + i, none⟩
        · rfl
        · have := hz 0 (by simpa using hb); simp at this
      simp only [storeCells, Sem.run_bind, addr_add]
      rw [run_store P w _ v _ (hv v (by simp)), hc]
      simp only [hf, Bool.false_eq_true, if_false, Result.andThen_ok]
      exact a1
    · rw [a4]
      congr 1
      apply List.ext_getElem?
      intro j
      rw [splice_get _ _ _ (by simp; omega), splice_get _ _ _ (by simp; omega)]
      simp only [List.length_cons]
      by_cases c1 : j < o + i
      · rw [if_pos c1, if_pos (by omega), List.getElem?_set_ne (by omega)]
      · rw [if_neg c1]
        by_cases c2 : j = o + i
        · subst c2
          rw [if_pos (by omega), if_pos (by omega)]
          simp
          rw [List.getElem?_set_self (by omega)]
        · rw [if_neg (by omega)]
          by_cases c3 : j < o + (i + 1) + us.length
          · rw [if_pos c3, if_pos (by omega), show j - (o + i) = (j - (o + (i + 1))) + 1 by omega, List.getElem?_cons_succ]
          · rw [if_neg c3, if_neg (by omega), List.getElem?_set_ne (by omega)]

/-- A block's cells are cells. -/
theorem rep_one : ∀ (t : Ty) (x : t.D) (vs : List Value), rep F w t x vs → ∀ v ∈ vs, v.oneCell' = true
  | .int _, _, _, h => by simp only [rep] at h; subst h; simp [Value.oneCell']
  | .bool, _, _, h => by simp only [rep] at h; subst h; simp [Value.oneCell']
  | .str, _, _, h => by simp only [rep] at h; subst h; simp [Value.oneCell']
  | .sl _, _, _, h => by simp only [rep] at h; obtain ⟨A, c, rfl, _⟩ := h; simp [Value.oneCell']
  | .un, _, _, h => by simp only [rep] at h; subst h; simp
  | .pr a b, _, _, h => by
    simp only [rep] at h
    obtain ⟨us, ws, rfl, h1, h2⟩ := h
    intro v hv
    rcases List.mem_append.1 hv with hv | hv
    · exact rep_one a _ _ h1 v hv
    · exact rep_one b _ _ h2 v hv
  | .ar n e, xs, vs, h => by
    intro v hv
    obtain ⟨h1, h2, h3⟩ := rep_ar_iff.1 h
    obtain ⟨k, hk, rfl⟩ := List.getElem_of_mem hv
    by_cases hz : e.sz = 0
    · rw [hz] at h2; simp at h2; subst h2; simp at hk
    · have hlt : k / e.sz < xs.length := by
        rw [h1]; exact Nat.div_lt_of_lt_mul (by rw [h2, Nat.mul_comm] at hk; exact hk)
      refine rep_one e _ _ (h3 _ hlt) _ ?_
      apply List.mem_of_getElem? (i := k % e.sz)
      rw [seg_get, if_pos (Nat.mod_lt _ (by omega)), Nat.mul_comm, Nat.div_add_mod]
      exact List.getElem?_eq_getElem hk

mutual
theorem RelC.oneC : ∀ {a vs}, RelC F w β a vs → ∀ v ∈ vs, v.oneCell' = true
  | _, _, .dat t x vs h => rep_one t x vs h
  | _, _, .nilS => by simp [Value.oneCell']
  | _, _, .nilP => by simp [Value.oneCell']
  | _, _, .nilF => by simp [Value.oneCell']
  | _, _, .full .. => by simp [Value.oneCell']
  | _, _, .sub .. => by simp [Value.oneCell']
  | _, _, .ptr .. => by simp [Value.oneCell']
  | _, _, .fptr .. => by simp [Value.oneCell']
  | _, _, .fn .. => by simp [Value.oneCell']
  | _, _, .agg xs vs h => RelCs.oneC h
theorem RelCs.oneC : ∀ {a vs}, RelCs F w β a vs → ∀ v ∈ vs, v.oneCell' = true
  | _, _, .nil => by simp
  | _, _, .cons a l us vs h1 h2 h3 => fun v hv => by
    rcases List.mem_append.1 hv with hv | hv
    · exact RelC.oneC h1 v hv
    · exact RelCs.oneC h3 v hv
end
end
end Go.LM
