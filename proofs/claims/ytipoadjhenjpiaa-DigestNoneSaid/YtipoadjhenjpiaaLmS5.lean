/- LM: loads, places, slices. -/
import Derived.Test.YtipoadjhenjpiaaLmS4
set_option linter.unusedVariables false
set_option linter.unusedSimpArgs false
namespace Go.LM

section
variable {P : Program} {F : Nat → Prop} {w : World} {β : Nat → Option Conc}

theorem info_of_und {T : TypeId} {d : TypeDesc} (h : P.underlying T = some d) : ∃ i, P.info? T = some i := by
  unfold Program.underlying at h
  split at h
  · exact ⟨_, by assumption⟩
  · exact ⟨_, by assumption⟩
  · cases h
theorem cellsOf_info {T : TypeId} {i : TypeInfo} (h : P.info? T = some i) : P.cellsOf T = i.size := by simp [Program.cellsOf, h]
theorem sizeOf_run {T : TypeId} {i : TypeInfo} (h : P.info? T = some i) : (sizeOf T).run P w = .ok (P.cellsOf T) w := by
  simp [sizeOf, typeInfo, program, h, cellsOf_info h, Sem.run, pure]
theorem isAgg_run {T : TypeId} {d : TypeDesc} (h : P.underlying T = some d) : (isAgg T).run P w = .ok (isAggM P T) w := by
  unfold isAgg isAggM
  simp only [Sem.run_bind, und h, Result.andThen_ok, h]
  cases d <;> simp [pure, Sem.run]

theorem und_of_tyOf {d : Nat} {T : TypeId} {t : Ty} (h : tyOf P d T = some t) : ∃ u, P.underlying T = some u := by
  cases d with
  | zero => cases h
  | succ d =>
    unfold tyOf at h
    split at h
    case h_7 => cases h
    all_goals exact ⟨_, by assumption⟩
theorem many_of_tyOf {d : Nat} {T : TypeId} {t : Ty} (h : tyOf P d T = some t) (x : t.D) : isMany (.dat t x) = isAggM P T := by
  cases d with
  | zero => cases h
  | succ d =>
    unfold tyOf at h
    unfold isAggM
    split at h
    · rename_i hu; cases h; rw [hu]; rfl
    · rename_i hu; cases h; rw [hu]; rfl
    · rename_i hu; cases h; rw [hu]; rfl
    · rename_i hu
      rw [hu]
      cases hq : tyOf P d _ with
      | none => rw [hq] at h; cases h
      | some q => rw [hq] at h; cases h; rfl
    · rename_i hu
      rw [hu]
      cases hq : tyOf P d _ with
      | none => rw [hq] at h; cases h
      | some q => rw [hq] at h; cases h; rfl
    · rename_i fs hu
      rw [hu]
      cases hl : fs.toList with
      | nil => rw [hl] at h; cases h; rfl
      | cons f l =>
        rw [hl] at h
        simp only [fieldsTy] at h
        cases hq : tyOf P d f.type with
        | none => rw [hq] at h; cases h
        | some q =>
          rw [hq] at h
          simp only [Option.bind_some] at h
          cases hr : fieldsTy (tyOf P d) l with
          | none => rw [hr] at h; cases h
          | some r => rw [hr] at h; cases h; rfl
    · cases h
theorem tyC_some {T : TypeId} {t : Ty} (h : tyC P T = some t) : tyOf P TD T = some t ∧ (∃ i, P.info? T = some i) ∧ P.cellsOf T = t.sz ∧ (∃ u, P.underlying T = some u) ∧ ∀ x, isMany (.dat t x) = isAggM P T := by
  unfold tyC at h
  split at h
  · rename_i t' i h1 h2
    split at h
    · rename_i hs
      cases h
      exact ⟨h1, ⟨i, h2⟩, by rw [cellsOf_info h2]; exact hs, und_of_tyOf h1, many_of_tyOf h1⟩
    · cases h
  · cases h

theorem one_of_rep {t : Ty} {x : t.D} {vs : List Value} (h : rep F w t x vs) (hm : isMany (.dat t x) = false) : ∃ v, vs = [v] := by
  have hl := rep_len _ _ _ h
  cases t <;> simp [isMany] at hm <;> simp only [Ty.sz] at hl <;> exact List.length_eq_one_iff.1 hl

theorem loadVar_run {T : TypeId} {d : TypeDesc} (hT : P.underlying T = some d) {b o : Nat} {vs : List Value} (hA : At w b o (P.cellsOf T) vs) (h1 : isAggM P T = false → ∃ v, vs = [v]) :
    ∃ r, (loadVar T ⟨b, o, none⟩).run P w = .ok r w ∧ (isAggM P T = true → r = .agg vs.toArray) ∧ (isAggM P T = false → vs = [r]) := by
  obtain ⟨i, hi⟩ := info_of_und hT
  unfold loadVar
  simp only [Sem.run_bind, isAgg_run hT, Result.andThen_ok]
  cases hm : isAggM P T
  · obtain ⟨v, rfl⟩ := h1 hm
    refine ⟨v, ?_, by simp, by simp⟩
    have hl := hA.len
    simp only [Bool.false_eq_true, if_false]
    rw [← hl] at hA
    exact cell_run hA
  · refine ⟨.agg vs.toArray, ?_, by simp, by simp⟩
    simp only [if_true, Sem.run_bind, sizeOf_run hi, Result.andThen_ok, load_run hA, pure, Sem.run]

theorem At.sub {b off n : Nat} {vs : List Value} (h : At w b off n vs) {k m : Nat} (hk : k + m ≤ n) : At w b (off + k) m ((vs.drop k).take m) := by
  obtain ⟨l, h1, h2, rfl⟩ := h
  exact ⟨l, h1, by omega, seg_seg _ hk⟩

/-- An element's part: where it lies, what it is. -/
theorem elem_at {X H} (g : Good X F w β H) {id : Nat} {p : Pos} {i : Int} {o : Nat} {rest : List (Int × Nat)} (hp : p.path = (i, o) :: rest) {t : Ty} {xs : List t.D} (h : arrAt H id p.off = some ⟨t, xs⟩)
    {c : Conc} (hc : β id = some c) {b : Nat} (hb : c.b = some b) {k : Nat} (hk : placeOf c.sh p = some k) :
    (0 ≤ i ∧ i < xs.length) ∧ ∃ l k', cellsAt w b = some l ∧ innerAt t o rest = some k' ∧ k = p.off + i.toNat * t.sz + k' ∧ p.off + (i.toNat * t.sz + t.sz) ≤ l.length ∧ rep F w t (xs.getD i.toNat t.dflt) ((l.drop (p.off + i.toNat * t.sz)).take t.sz) := by
  obtain ⟨h1, h2, h3⟩ := arrAt_rel g h hc
  obtain ⟨l, hl, hle, hr⟩ := h2 b hb
  unfold placeOf at hk
  rw [hp] at hk
  simp only [h1] at hk
  split at hk
  · rename_i hin
    cases hi : innerAt t o rest with
    | none => rw [hi] at hk; cases hk
    | some k' =>
      rw [hi] at hk; cases hk
      obtain ⟨h4, h5⟩ := ar_elem hr (i := i.toNat) (by omega)
      have hm : (i.toNat + 1) * t.sz ≤ xs.length * t.sz := Nat.mul_le_mul_right _ (by omega)
      rw [Nat.add_mul] at hm
      rw [seg_seg _ (by omega)] at h5
      exact ⟨hin, l, k', hl, rfl, rfl, by omega, h5⟩
  · cases hk

theorem asVal_rel {T : TypeId} {d : TypeDesc} (hT : P.underlying T = some d) {l : List AV} {v : AV} (h : asVal P T l = some v) {vs : List Value} (hr : RelCs F w β l vs) :
    (isAggM P T = false → ∃ x, vs = [x]) ∧ ∀ r, (isAggM P T = true → r = .agg vs.toArray) → (isAggM P T = false → vs = [r]) → RelV F w β v r := by
  unfold asVal at h
  split at h
  · rename_i ha
    cases h
    have hm : isAggM P T = true := by
      unfold isAggT at ha; unfold isAggM
      split at ha
      · rename_i hq; rw [hq]
      · cases ha
    refine ⟨(fun e => by rw [hm] at e; exact absurd e (by simp)), fun r h1 _ => ?_⟩
    rw [h1 hm]
    exact .many _ _ rfl (.agg _ _ hr)
  · split at h
    · rename_i a
      split at h
      · rename_i hm
        cases h
        cases hr with
        | cons _ _ us vs' h1 h2 h3 =>
        cases h3
        rw [List.append_nil]
        refine ⟨fun e => ?_, fun r h4 h5 => ?_⟩
        · rw [e] at hm
          cases h1 with
          | dat t x _ h => exact one_of_rep h hm
          | agg _ _ h => simp [isMany] at hm
          | _ => exact ⟨_, rfl⟩
        · cases e : isAggM P T
          · have := h5 e
            subst this
            exact .one _ _ (by rw [hm, e]) h1
          · have := h4 e
            rw [this]
            exact .many _ _ (by rw [hm, e]) h1
      · cases h
    · cases h

theorem RelV.of_tyC {T : TypeId} {u : Ty} (h : tyC P T = some u) {y : u.D} {vs : List Value} (hr : rep F w u y vs) :
    (isAggM P T = false → ∃ x, vs = [x]) ∧ ∀ r, (isAggM P T = true → r = .agg vs.toArray) → (isAggM P T = false → vs = [r]) → RelV F w β (.dat u y) r := by
  obtain ⟨h1, h2, h3, h4, h5⟩ := tyC_some h
  refine ⟨fun e => one_of_rep hr (by rw [h5, e]), fun r h6 h7 => RelV.ofDat hr (fun e => h6 (by rw [← h5 y]; exact e)) (fun e => h7 (by rw [← h5 y]; exact e))⟩

theorem sim_load {X H} (g : Good X F w β H) {T : TypeId} {a v : AV} {u : Value} (h : exLoad P T H a = some v) (ha : RelV F w β a u) :
    ∃ r, (Instr.loadAt T u).run P w = .ok r w ∧ RelV F w β v r := by
  unfold exLoad at h
  split at h
  · -- foreign
    rename_i t x
    obtain ⟨b, o, us, rfl, hF, hA, hr⟩ := ha.fptr_inv
    cases hT : tyC P T with
    | none => rw [hT] at h; cases h
    | some q =>
      rw [hT] at h
      simp only [Option.bind_some] at h
      cases hy : cast' (b := q) x with
      | none => rw [hy] at h; cases h
      | some y =>
        rw [hy] at h; cases h
        obtain ⟨rfl, hr'⟩ := cast'_rep hy hr
        obtain ⟨h1, h2, h3, ⟨d, h4⟩, h5⟩ := tyC_some hT
        obtain ⟨h6, h7⟩ := RelV.of_tyC (β := β) hT hr'
        rw [← h3] at hA
        obtain ⟨r, hrun, hr1, hr2⟩ := loadVar_run h4 hA h6
        exact ⟨r, by simpa [Instr.loadAt, Instr.sureAddr, pure, Sem.run] using hrun, h7 r hr1 hr2⟩
  · rename_i id p
    obtain ⟨c, b, o, rfl, hc, hb, ho⟩ := ha.ptr_inv
    split at h
    · rename_i hp
      split at h
      · rename_i cs hH
        split at h
        · rename_i hhas
          cases hu : P.underlying T with
          | none => simp [hasT, hu] at hhas
          | some d =>
          cases ht : takeL cs p.off (P.cellsOf T) with
          | none => rw [ht] at h; cases h
          | some l =>
            rw [ht] at h
            simp only [Option.bind_some] at h
            obtain ⟨blk, hb1, hb2⟩ := g.hr id c hc
            rw [hH] at hb1; cases hb1
            obtain ⟨_, b', hb', ⟨cl, hcl, hrel⟩, _⟩ := hb2
            rw [hb] at hb'; cases hb'
            obtain ⟨h1, h2⟩ := takeL_rel _ _ _ _ _ ht hrel
            have hoo : o = p.off := by unfold placeOf at ho; rw [hp] at ho; cases ho; rfl
            subst hoo
            obtain ⟨h3, h4⟩ := asVal_rel hu h h2
            obtain ⟨r, hrun, hr1, hr2⟩ := loadVar_run hu (b := b) (o := p.off) ⟨cl, hcl, h1, rfl⟩ h3
            exact ⟨r, by simpa [Instr.loadAt, Instr.sureAddr, pure, Sem.run] using hrun, h4 r hr1 hr2⟩
        · cases h
      · cases h
    · rename_i i o' rest hp
      split at h
      · rename_i t xs hA
        cases hT : tyC P T with
        | none => rw [hT] at h; cases h
        | some q =>
          rw [hT] at h
          simp only [Option.bind_some] at h
          cases hy : getP rest t (xs.getD i.toNat t.dflt) o' q with
          | none => rw [hy] at h; cases h
          | some y =>
            rw [hy] at h; cases h
            obtain ⟨hin, l, k', hl, hk', rfl, hle, hr⟩ := elem_at g hp hA hc hb ho
            obtain ⟨h8, h9⟩ := getP_rep _ _ _ _ _ _ _ _ hr hy hk'
            have hlen := rep_len _ _ _ hr
            rw [seg_seg _ (by omega)] at h9
            obtain ⟨h1, h2, h3, ⟨d, h4⟩, h5⟩ := tyC_some hT
            obtain ⟨h6, h7⟩ := RelV.of_tyC (β := β) hT h9
            obtain ⟨r, hrun, hr1, hr2⟩ := loadVar_run h4 (b := b) (o := p.off + i.toNat * t.sz + k') ⟨l, hl, by omega, by rw [h3]⟩ h6
            exact ⟨r, by simpa [Instr.loadAt, Instr.sureAddr, pure, Sem.run] using hrun, h7 r hr1 hr2⟩
      · cases h
  · cases h

theorem fieldOf_some {S : TypeId} {f : Nat} {fd : Field} (h : fieldOf P S f = some fd) : ∃ fs, P.underlying S = some (.struct fs) ∧ fs[f]? = some fd := by
  unfold fieldOf at h
  split at h
  · exact ⟨_, by assumption, h⟩
  · cases h

theorem placeOf_add {sh : Shape} {p : Pos} {o n : Nat} (h : placeOf sh p = some o) : placeOf sh (p.add n) = some (o + n) := by
  obtain ⟨off, path⟩ := p
  have hin : ∀ (l : List (Int × Nat)) (t : Ty) (o0 : Nat) (i : Int) (q k : Nat), innerAt t o0 (l ++ [(i, q)]) = some k → innerAt t o0 (l ++ [(i, q + n)]) = some (k + n) := by
    intro l
    induction l with
    | nil =>
      intro t o0 i q k h
      simp only [List.nil_append, innerAt] at h ⊢
      split at h
      · split at h
        · rename_i hh; cases h; rw [if_pos hh]; simp; omega
        · cases h
      · cases h
    | cons x l ih =>
      intro t o0 i q k h
      obtain ⟨j, o'⟩ := x
      simp only [List.cons_append, innerAt] at h ⊢
      split at h
      · split at h
        · rename_i hh
          rw [if_pos hh]
          cases hk : innerAt _ o' (l ++ [(i, q)]) with
          | none => rw [hk] at h; cases h
          | some k' => rw [hk] at h; cases h; rw [ih _ _ _ _ _ hk]; simp; omega
        · cases h
      · cases h
  unfold Pos.add
  cases hr : path.reverse with
  | nil =>
    have : path = [] := by simpa using hr
    subst this
    simp only [placeOf] at h ⊢
    cases h; rfl
  | cons x r =>
    obtain ⟨i, q⟩ := x
    have hp : path = r.reverse ++ [(i, q)] := by
      have := congrArg List.reverse hr; simpa using this
    subst hp
    simp only [List.reverse_cons]
    cases hrr : r.reverse with
    | nil =>
      rw [hrr] at h
      simp only [List.nil_append, placeOf] at h ⊢
      split at h
      · split at h
        · rename_i hh
          rw [if_pos hh]
          simp only [innerAt, Option.map_some] at h ⊢
          cases h; simp; omega
        · cases h
      · cases h
    | cons y l =>
      rw [hrr] at h
      obtain ⟨j, o'⟩ := y
      simp only [List.cons_append, placeOf] at h ⊢
      split at h
      · split at h
        · rename_i hh
          rw [if_pos hh]
          cases hk : innerAt _ o' (l ++ [(i, q)]) with
          | none => rw [hk] at h; cases h
          | some k' => rw [hk] at h; cases h; rw [hin _ _ _ _ _ _ hk]; simp; omega
        · cases h
      · cases h

theorem sim_fieldAddr {S : TypeId} {f : Nat} {a v : AV} {u : Value} (h : exFieldAddr P S a f = some v) (ha : RelV F w β a u) :
    ∃ r, (Instr.fieldAt S u f).run P w = .ok r w ∧ RelV F w β v r := by
  unfold exFieldAddr at h
  split at h
  · cases h
  rename_i fd hfd
  obtain ⟨fs, hS, hfs⟩ := fieldOf_some hfd
  split at h
  · cases h
  rename_i hsz
  have hinfo : ∃ i, P.info? fd.type = some i := by
    cases hi : P.info? fd.type with
    | none => exact absurd (by simp [Program.cellsOf, hi]) hsz
    | some i => exact ⟨i, rfl⟩
  obtain ⟨i, hi⟩ := hinfo
  have hplace : ∀ b o, (fieldPlace ⟨b, o, none⟩ fd).run P w = .ok ⟨b, o + fd.offset, none⟩ w := fun b o => by
    unfold fieldPlace
    simp only [Sem.run_bind, sizeOf_run hi, Result.andThen_ok, if_neg hsz, pure, Sem.run, addr_add]
  have hrun : ∀ b o, (Instr.fieldAt S (.pointer (some ⟨b, o, none⟩)) f).run P w = .ok (.pointer (some ⟨b, o + fd.offset, none⟩)) w := fun b o => by
    unfold Instr.fieldAt
    simp only [Sem.run_bind, und hS, Result.andThen_ok, hfs, Instr.sureAddr, pure, Sem.run, hplace]
  split at h
  · rename_i id p
    cases h
    obtain ⟨c, b, o, rfl, hc, hb, ho⟩ := ha.ptr_inv
    exact ⟨_, hrun b o, .one _ _ rfl (.ptr _ _ c b _ hc hb (placeOf_add ho))⟩
  · rename_i t x
    obtain ⟨b, o, us, rfl, hF, hA, hr⟩ := ha.fptr_inv
    cases hT : tyC P fd.type with
    | none => rw [hT] at h; cases h
    | some q =>
      rw [hT] at h
      simp only [Option.bind_some] at h
      cases hy : proj t x fd.offset q with
      | none => rw [hy] at h; cases h
      | some y =>
        rw [hy] at h; cases h
        obtain ⟨h1, h2⟩ := proj_rep _ _ _ _ _ _ hr hy
        have hl := hA.len
        exact ⟨_, hrun b o, .one _ _ rfl (.fptr _ _ b _ _ hF (hA.sub (by omega)) h2)⟩
  · cases h


end
end Go.LM
