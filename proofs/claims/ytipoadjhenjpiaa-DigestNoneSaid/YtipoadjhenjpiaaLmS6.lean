/- LM: elements, fields, cuts, lengths. -/
import Derived.Test.YtipoadjhenjpiaaLmS5
set_option linter.unusedVariables false
set_option linter.unusedSimpArgs false
namespace Go.LM

section
variable {P : Program} {F : Nat → Prop} {w : World} {β : Nat → Option Conc}

theorem elemIs_some {T : TypeId} {t : Ty} (h : elemIs P T t = true) : tyC P T = some t := by
  unfold elemIs at h
  split at h
  · rename_i q hq; rw [hq]; simp at h; rw [h]
  · cases h

theorem part_run {T : TypeId} {d : TypeDesc} (hT : P.underlying T = some d) {vs : List Value} {off : Nat} (hle : off + P.cellsOf T ≤ vs.length) (h1 : isAggM P T = false → P.cellsOf T = 1) :
    ∃ r, (part T vs.toArray off).run P w = .ok r w ∧ (isAggM P T = true → r = .agg ((vs.drop off).take (P.cellsOf T)).toArray) ∧ (isAggM P T = false → (vs.drop off).take (P.cellsOf T) = [r]) := by
  obtain ⟨i, hi⟩ := info_of_und hT
  unfold part
  simp only [Sem.run_bind, isAgg_run hT, Result.andThen_ok]
  cases hm : isAggM P T
  · have h1' := h1 hm
    have hlt : off < vs.length := by omega
    refine ⟨vs[off], ?_, by simp, fun _ => ?_⟩
    · simp [hlt, pure, Sem.run]
    · rw [h1']
      apply List.ext_getElem?
      intro j
      rw [seg_get]
      cases j with
      | zero => simp [hlt]
      | succ j => rw [if_neg (by omega)]; simp
  · refine ⟨.agg ((vs.drop off).take (P.cellsOf T)).toArray, ?_, by simp, by simp⟩
    simp only [if_true, Sem.run_bind, sizeOf_run hi, Result.andThen_ok, pure, Sem.run]
    congr 2
    simp [List.extract_toArray]

theorem one_of_many {t : Ty} {x : t.D} (h : isMany (.dat t x) = false) : t.sz = 1 := by
  cases t <;> simp [isMany] at h <;> rfl

theorem bytes_get (s : List UInt8) (i : Nat) : ((ByteArray.mk s.toArray)[i]? : Option UInt8) = s[i]? := by
  rw [getElem?_def, getElem?_def]
  split
  · rename_i h
    have h' : i < s.length := by simpa [ByteArray.size] using h
    rw [dif_pos h']; simp [ByteArray.getElem_eq_getElem_data]
  · rename_i h
    have h' : ¬ i < s.length := by simpa [ByteArray.size] using h
    rw [dif_neg h']

theorem sim_index {T : TypeId} {a i v : AV} {u ui : Value} (h : exIndex P T a i = some v) (ha : RelV F w β a u) (hi : RelV F w β i ui) :
    ∃ r, (Instr.index T u ui).run P w = .ok r w ∧ RelV F w β v r := by
  unfold exIndex at h
  split at h
  · rename_i k n
    rw [hi.int_inv]
    split at h
    · rename_i s hT
      split at h
      · rename_i hin
        cases h
        rw [ha.str_inv]
        refine ⟨.int .u8 ((s.getD (toI k n).toNat (0 : UInt8)).toNat : Int), ?_, RelV.int rfl⟩
        unfold Instr.index
        simp only [Sem.run_bind, asIntOf, pure, Sem.run, Result.andThen_ok, und hT]
        rw [if_pos hin.1, bytes_get, List.getElem?_eq_getElem (by omega)]
        simp only [List.getD]
        rw [List.getElem?_eq_getElem (by omega)]
        rfl
      · cases h
    · rename_i len e m t xs hT
      split at h
      · rename_i hel
        obtain ⟨hel, rfl⟩ := hel
        split at h
        · rename_i hin
          cases h
          have hel := elemIs_some hel
          obtain ⟨h1, ⟨inf, h2⟩, h3, ⟨d, h4⟩, h5⟩ := tyC_some hel
          rcases ha.dat_inv with ⟨hm, _⟩ | ⟨_, cs, rfl, hr⟩
          · simp [isMany] at hm
          obtain ⟨h6, h7⟩ := ar_elem hr (i := (toI k n).toNat) (by omega)
          rw [Nat.add_mul] at h6
          obtain ⟨r, hr1, hr2, hr3⟩ := part_run (P := P) (w := w) h4 (vs := cs) (off := (toI k n).toNat * t.sz) (by omega) (fun e => by rw [h3]; exact one_of_many (x := t.dflt) (by rw [h5]; exact e))
          refine ⟨r, ?_, ?_⟩
          · unfold Instr.index
            simp only [Sem.run_bind, asIntOf, pure, Sem.run, Result.andThen_ok, und hT]
            rw [if_pos hin]
            simp only [Sem.run_bind, sizeOf_run h2, Result.andThen_ok, h3]
            exact hr1
          · rw [h3] at hr2 hr3
            exact (RelV.of_tyC hel h7).2 r hr2 hr3
        · cases h
      · cases h
    · cases h
  · cases h

theorem sim_field {S : TypeId} {f : Nat} {a v : AV} {u : Value} (h : exField P S a f = some v) (ha : RelV F w β a u) :
    ∃ r, (Instr.field S u f).run P w = .ok r w ∧ RelV F w β v r := by
  unfold exField at h
  split at h
  · cases h
  rename_i fd hfd
  obtain ⟨fs, hS, hfs⟩ := fieldOf_some hfd
  have hrun : ∀ cs : List Value, (Instr.field S (.agg cs.toArray) f).run P w = (part fd.type cs.toArray fd.offset).run P w := fun cs => by
    unfold Instr.field
    simp only [Sem.run_bind, und hS, Result.andThen_ok, hfs, asAgg, pure, Sem.run]
  split at h
  · rename_i t x
    split at h
    · rename_i hmany
      cases hT : tyC P fd.type with
      | none => rw [hT] at h; cases h
      | some q =>
        rw [hT] at h
        simp only [Option.bind_some] at h
        cases hy : proj t x fd.offset q with
        | none => rw [hy] at h; cases h
        | some y =>
          rw [hy] at h; cases h
          rcases ha.dat_inv with ⟨hm, hr⟩ | ⟨_, cs, rfl, hr⟩
          · rw [hmany] at hm; cases hm
          · obtain ⟨h1, h2⟩ := proj_rep _ _ _ _ _ _ hr hy
            obtain ⟨h3, ⟨inf, h4⟩, h5, ⟨d, h6⟩, h7⟩ := tyC_some hT
            obtain ⟨r, hr1, hr2, hr3⟩ := part_run (P := P) (w := w) h6 (vs := cs) (off := fd.offset) (by omega) (fun e => by rw [h5]; exact one_of_many (x := q.dflt) (by rw [h7]; exact e))
            rw [h5] at hr2 hr3
            exact ⟨r, by rw [hrun]; exact hr1, (RelV.of_tyC hT h2).2 r hr2 hr3⟩
    · cases h
  · rename_i xs
    split at h
    · rename_i hhas
      obtain ⟨vs, rfl, hr⟩ := ha.agg_inv
      cases hu : P.underlying fd.type with
      | none => simp [hasT, hu] at hhas
      | some d =>
      cases ht : takeL xs fd.offset (P.cellsOf fd.type) with
      | none => rw [ht] at h; cases h
      | some l =>
        rw [ht] at h
        simp only [Option.bind_some] at h
        obtain ⟨h1, h2⟩ := takeL_rel _ _ _ _ _ ht hr
        obtain ⟨h3, h4⟩ := asVal_rel hu h h2
        obtain ⟨r, hr1, hr2, hr3⟩ := part_run (P := P) (w := w) hu (vs := vs) (off := fd.offset) h1 (fun e => by
          obtain ⟨x, hx⟩ := h3 e
          have := congrArg List.length hx
          simp at this; omega)
        exact ⟨r, by rw [hrun]; exact hr1, h4 r hr2 hr3⟩
    · cases h
  · cases h

/-! ### addresses of elements -/
theorem placeOf_elem {sh : Shape} {off : Nat} {n : Nat} {t : Ty} (h : arrSh sh off = some (n, t)) {i : Int} (h0 : 0 ≤ i) (h1 : i < n) :
    placeOf sh ⟨off, [(i, 0)]⟩ = some (off + i.toNat * t.sz) := by
  simp only [placeOf, h]
  rw [if_pos ⟨h0, h1⟩]; rfl

theorem innerAt_push : ∀ (path : List (Int × Nat)) (t : Ty) (o k n : Nat) (e : Ty) (i : Int), innerAt t o path = some k → arrIn t o path = some (n, e) → 0 ≤ i → i < n →
    innerAt t o (path ++ [(i, 0)]) = some (k + i.toNat * e.sz)
  | [], t, o, k, n, e, i, h, ha, h0, h1 => by
    simp only [innerAt] at h
    cases h
    simp only [arrIn] at ha
    simp only [List.nil_append, innerAt, ha]
    rw [if_pos ⟨h0, h1⟩]; rfl
  | (j, o') :: rest, t, o, k, n, e, i, h, ha, h0, h1 => by
    simp only [innerAt, arrIn] at h ha
    simp only [List.cons_append, innerAt]
    split at h
    · rename_i m e' hT
      rw [hT] at ha
      simp only at ha
      split at h
      · rename_i hin
        rw [if_pos hin]
        cases hk : innerAt e' o' rest with
        | none => rw [hk] at h; cases h
        | some k' =>
          rw [hk] at h; cases h
          rw [innerAt_push rest e' o' k' n e i hk ha h0 h1]
          simp; omega
      · cases h
    · cases h

theorem placeOf_push {sh : Shape} {off n0 : Nat} {t : Ty} {i0 : Int} {o0 : Nat} {rest : List (Int × Nat)} {k n : Nat} {e : Ty} {i : Int} (h : placeOf sh ⟨off, (i0, o0) :: rest⟩ = some k)
    (hs : arrSh sh off = some (n0, t)) (ha : arrIn t o0 rest = some (n, e)) (h0 : 0 ≤ i) (h1 : i < n) : placeOf sh ⟨off, (i0, o0) :: rest ++ [(i, 0)]⟩ = some (k + i.toNat * e.sz) := by
  simp only [placeOf, hs, List.cons_append] at h ⊢
  split at h
  · rename_i hin
    rw [if_pos hin]
    cases hk : innerAt t o0 rest with
    | none => rw [hk] at h; cases h
    | some k' =>
      rw [hk] at h; cases h
      rw [innerAt_push rest t o0 k' n e i hk ha h0 h1]
      simp; omega
  · cases h

theorem arrLeaf_rel {X H} (g : Good X F w β H) {id off : Nat} {n : Nat} {t : Ty} (h : arrLeaf H id off = some (n, t)) {c : Conc} (hc : β id = some c) : arrSh c.sh off = some (n, t) := by
  obtain ⟨blk, h1, h2⟩ := g.hr id c hc
  unfold arrLeaf at h
  rw [h1] at h
  cases blk with
  | dead => cases h
  | row _ _ _ => cases h
  | vars cs =>
    simp only at h
    split at h
    · rename_i m t' xs hl
      cases h
      obtain ⟨⟨h3, hf⟩, _⟩ := h2
      rw [h3]
      show shArr _ _ = _
      rw [leafAt_sh _ _ _ hl hf]; rfl
    · cases h

/-- The elements of a foreign slice. -/
theorem slice_elem {t : Ty} {xs : List t.D} {v : Value} (h : rep F w (.sl t) xs [v]) : ∃ A c, v = .slice A xs.length c ∧ xs.length ≤ c ∧
    (xs.length = 0 ∨ ∃ b off, A = some ⟨b, off, none⟩ ∧ F b ∧ ∀ i (h : i < xs.length), ∃ us, At w b (off + i * t.sz) t.sz us ∧ rep F w t xs[i] us) := by
  simp only [rep] at h
  obtain ⟨A, c, h1, h2, h3⟩ := h
  injection h1 with h1 _
  exact ⟨A, c, h1, h2, h3⟩

theorem sim_indexAddr {X H} (g : Good X F w β H) {T : TypeId} {a i v : AV} {u ui : Value} (h : exIndexAddr P T H a i = some v) (ha : RelV F w β a u) (hi : RelV F w β i ui) :
    ∃ r, (Instr.indexAt T u ui).run P w = .ok r w ∧ RelV F w β v r := by
  unfold exIndexAddr at h
  split at h
  · rename_i k n
    rw [hi.int_inv]
    split at h
    · rename_i len e hT
      split at h
      · -- an array of one's own
        rename_i id p
        obtain ⟨c, b, o, rfl, hc, hb, ho⟩ := ha.ptr_inv
        simp only at h
        split at h
        · rename_i m t har
          split at h
          · rename_i hel
            obtain ⟨hel, rfl⟩ := hel
            split at h
            · rename_i hin
              cases h
              have hel := elemIs_some hel
              obtain ⟨h1, ⟨inf, h2⟩, h3, ⟨d, h4⟩, h5⟩ := tyC_some hel
              refine ⟨.pointer (some ⟨b, o + (toI k n).toNat * t.sz, none⟩), ?_, ?_⟩
              · unfold Instr.indexAt
                simp only [Sem.run_bind, asIntOf, pure, Sem.run, Result.andThen_ok, und hT, Instr.sureAddr]
                rw [if_pos hin]
                simp only [Sem.run_bind, sizeOf_run h2, Result.andThen_ok, pure, Sem.run, addr_add, h3]
              · refine .one _ _ rfl (.ptr _ _ c b _ hc hb ?_)
                obtain ⟨off, path⟩ := p
                cases path with
                | nil =>
                  simp only at har
                  have := arrLeaf_rel g har hc
                  simp only [placeOf] at ho
                  cases ho
                  exact placeOf_elem this hin.1 hin.2
                | cons x rest =>
                  obtain ⟨i0, o0⟩ := x
                  simp only at har
                  split at har
                  · rename_i t0 xs0 hA
                    obtain ⟨hs, _⟩ := arrAt_rel g hA hc
                    exact placeOf_push ho hs har hin.1 hin.2
                  · cases har
            · cases h
          · cases h
        · cases h
      · rename_i m t xs
        split at h
        · rename_i hel
          obtain ⟨hel, rfl⟩ := hel
          split at h
          · rename_i hin
            cases h
            have hel := elemIs_some hel
            obtain ⟨h1, ⟨inf, h2⟩, h3, ⟨d, h4⟩, h5⟩ := tyC_some hel
            obtain ⟨b, o, us, rfl, hF, hA, hr⟩ := ha.fptr_inv
            obtain ⟨h6, h7⟩ := ar_elem hr (i := (toI k n).toNat) (by omega)
            have hl := hA.len
            rw [Nat.add_mul] at h6
            refine ⟨.pointer (some ⟨b, o + (toI k n).toNat * t.sz, none⟩), ?_, .one _ _ rfl (.fptr _ _ b _ _ hF (hA.sub (by omega)) h7)⟩
            unfold Instr.indexAt
            simp only [Sem.run_bind, asIntOf, pure, Sem.run, Result.andThen_ok, und hT, Instr.sureAddr]
            rw [if_pos hin]
            simp only [Sem.run_bind, sizeOf_run h2, Result.andThen_ok, pure, Sem.run, addr_add, h3]
          · cases h
        · cases h
      · cases h
    · rename_i e hT
      have hrun : ∀ {A : Addr} {len cap : Nat} {t : Ty}, tyC P e = some t → 0 ≤ toI k n → toI k n < (len : Int) → (Instr.indexAt T (.slice (some A) len cap) (.int k (toI k n))).run P w = .ok (.pointer (some (A.add ((toI k n).toNat * t.sz)))) w := by
        intro A len cap t hel h0 h1
        obtain ⟨_, ⟨inf, h2⟩, h3, _, _⟩ := tyC_some hel
        unfold Instr.indexAt
        simp only [Sem.run_bind, asIntOf, pure, Sem.run, Result.andThen_ok, und hT]
        rw [if_pos ⟨h0, h1⟩]
        simp only [Sem.run_bind, sizeOf_run h2, Result.andThen_ok, pure, Sem.run, h3]
      split at h
      · rename_i t xs
        split at h
        · rename_i hel
          split at h
          · rename_i hin
            cases h
            have hel := elemIs_some hel
            rcases ha.dat_inv with ⟨_, hr⟩ | ⟨hm, _⟩
            · obtain ⟨A, c, rfl, hc, hz | ⟨b, off, rfl, hF, hx⟩⟩ := slice_elem hr
              · rw [hz] at hin; omega
              · obtain ⟨us, hA, hr'⟩ := hx (toI k n).toNat (by omega)
                refine ⟨_, hrun hel hin.1 hin.2, ?_⟩
                rw [addr_add, getD_get _ _ _ (by omega)]
                exact .one _ _ rfl (.fptr _ _ b _ us hF hA hr')
            · simp [isMany] at hm
          · cases h
        · cases h
      · rename_i id
        split at h
        · rename_i t xs hA
          split at h
          · rename_i hel
            split at h
            · rename_i hin
              cases h
              have hel := elemIs_some hel
              obtain ⟨c, t', len, rfl, hc, hsh, hle⟩ := ha.full_inv
              obtain ⟨h1, h2, h3⟩ := arrAt_rel g hA hc
              have : len = xs.length := by rw [hsh] at h1; simp [arrSh] at h1; omega
              subst this
              cases hb : c.b with
              | none => rw [h3 hb] at hin; simp at hin; omega
              | some b =>
                refine ⟨_, by simpa only [Option.map_some] using hrun hel hin.1 hin.2, ?_⟩
                rw [addr_add]
                exact .one _ _ rfl (.ptr _ _ c b _ hc hb (placeOf_elem h1 hin.1 hin.2))
            · cases h
          · cases h
        · cases h
      · rename_i id off lo hi'
        split at h
        · rename_i t xs hA
          split at h
          · rename_i hel
            split at h
            · rename_i hin
              cases h
              have hel := elemIs_some hel
              obtain ⟨c, m, t', A, cap, rfl, hc, hsh, h4, h5, h6, h7, h8⟩ := ha.sub_inv
              obtain ⟨h1, h2, h3⟩ := arrAt_rel g hA hc
              rw [hsh] at h1; cases h1
              rcases h8 with h8 | ⟨b, hb, rfl⟩
              · omega
              refine ⟨_, hrun hel hin.1 (by omega), ?_⟩
              rw [addr_add]
              have := placeOf_elem hsh (i := lo + toI k n) (by omega) (by omega)
              rw [show (lo + toI k n).toNat = lo.toNat + (toI k n).toNat by omega, Nat.add_mul, ← Nat.add_assoc] at this
              exact .one _ _ rfl (.ptr _ _ c b _ hc hb this)
            · cases h
          · cases h
        · cases h
      · cases h
    · cases h
  · cases h

end
end Go.LM
