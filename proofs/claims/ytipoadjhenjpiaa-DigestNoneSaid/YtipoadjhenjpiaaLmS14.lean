/- LM: copy, conversions, lengths, rows out of parts. -/
import Derived.Test.YtipoadjhenjpiaaLmS13
set_option linter.unusedVariables false
set_option linter.unusedSimpArgs false
namespace Go.LM

section
variable {P : Program} {F : Nat → Prop} {w : World} {β : Nat → Option Conc}

theorem sim_copy {X H} (g : Good X F w β H) {id0 : Nat} {T U ty : TypeId} {a b x : AV} {H' : Heap} {hd : Bool} (h : exCopy P T U H a b = some (x, H', hd)) {va vb : Value} (ha : RelV F w β a va) (hb : RelV F w β b vb) :
    ∃ r w', (Builtin.copy_ #[T, U] ty #[va, vb]).run P w = .ok r w' ∧ Left X F w β H' id0 x r w' := by
  unfold exCopy at h
  cases hT : elemTy P T with
  | none => rw [hT] at h; cases h
  | some et =>
  obtain ⟨e, t⟩ := et
  rw [hT] at h
  simp only [Option.bind_some] at h
  obtain ⟨hT1, hT2⟩ := elemTy_some hT
  obtain ⟨_, ⟨inf, hi⟩, hsz, _, _⟩ := tyC_some hT2
  have hsz' : ∀ w', (sizeOf e).run P w' = .ok t.sz w' := fun w' => by rw [sizeOf_run hi, hsz]
  -- where it is copied to
  have hdst : ∃ id off lo hi, (∃ c n u A cap, va = .slice A (hi - lo).toNat cap ∧ β id = some c ∧ arrSh c.sh off = some (n, u) ∧ 0 ≤ lo ∧ lo ≤ hi ∧ hi ≤ (n : Int) ∧ (lo = hi ∨ ∃ b, c.b = some b ∧ A = some ⟨b, off + lo.toNat * u.sz, none⟩)) ∧
      (match arrAt H id off with
        | some ⟨u, xs⟩ => (castL (u := t) xs).bind fun zs => (srcOf P U H t b).bind fun ys =>
          (setArr H id off t (zs.take lo.toNat ++ (ys.take (hi - lo).toNat ++ zs.drop (lo.toNat + min ys.length (hi - lo).toNat)))).map fun h' =>
            (AV.dat (.int .i64) ((min ys.length (hi - lo).toNat : Nat) : Int), h', true)
        | none => none) = some (x, H', hd) := by
    cases a with
    | full id =>
      simp only at h
      cases hA : arrAt H id 0 with
      | none => rw [hA] at h; cases h
      | some p =>
        obtain ⟨u, xs⟩ := p
        rw [hA] at h
        simp only [Option.map_some, Option.bind_some] at h
        obtain ⟨c, t', len, hv, hc, hsh, hle⟩ := ha.full_inv
        obtain ⟨h1, h2, h3⟩ := arrAt_rel g hA hc
        have hl : len = xs.length ∧ t' = u := by rw [hsh] at h1; simpa [arrSh] using h1
        obtain ⟨rfl, rfl⟩ := hl
        refine ⟨id, 0, 0, xs.length, ⟨c, xs.length, t', _, _, by simpa using hv, hc, h1, by omega, by omega, by omega, ?_⟩, h⟩
        cases hcb : c.b with
        | none => left; rw [h3 hcb]; rfl
        | some bb => right; exact ⟨bb, rfl, by simp⟩
    | sub id off lo hi =>
      simp only [Option.bind_some] at h
      obtain ⟨c, n, u, A, cap, hv, hc, hsh, h4, h5, h6, h7, h8⟩ := ha.sub_inv
      exact ⟨id, off, lo, hi, ⟨c, n, u, A, cap, hv, hc, hsh, h4, h5, h6, h8⟩, h⟩
    | _ => cases h
  obtain ⟨id, off, lo, hi, ⟨c, n, u, A, cap, rfl, hc, hsh, h4, h5, h6, h8⟩, h⟩ := hdst
  split at h
  · rename_i u' xs hA
    cases hq : castL (u := t) xs with
    | none => rw [hq] at h; cases h
    | some zs =>
      rw [hq] at h
      simp only [Option.bind_some] at h
      obtain ⟨ee, he⟩ := castL_some hq
      subst ee
      have he' : zs = xs := he
      subst he'
      cases hs : srcOf P U H u' b with
      | none => rw [hs] at h; cases h
      | some ys =>
        rw [hs] at h
        simp only [Option.bind_some] at h
        obtain ⟨h1, h2, h3⟩ := arrAt_rel g hA hc
        rw [hsh] at h1; cases h1
        obtain ⟨hU, hlen, vs, hvs, hfc⟩ := src_cells g hs hb
        have hvl : vs.length = ys.length * u.sz := (rep_ar_iff.1 hvs).2.1
        generalize hm : min ys.length (hi - lo).toNat = m at h
        have hm1 : m ≤ ys.length := by omega
        have hm2 : m ≤ (hi - lo).toNat := by omega
        cases hset : setArr H id off u (zs.take lo.toNat ++ (ys.take (hi - lo).toNat ++ zs.drop (lo.toNat + m))) with
        | none => rw [hset] at h; cases h
        | some h' =>
          rw [hset] at h; cases h
          have hmm : m * u.sz ≤ ys.length * u.sz := Nat.mul_le_mul_right _ hm1
          have hrun : ∀ (Q : World), ((match (A : Option Addr) with | some a => storeCells a (vs.take (m * u.sz)) | none => pure ()) : Sem Unit).run P w = .ok () Q → (Builtin.copy_ #[T, U] ty #[.slice A (hi - lo).toNat cap, vb]).run P w = .ok (.int .i64 m) Q := by
            intro Q hQ
            unfold Builtin.copy_
            simp only [Sem.run_bind, und hT1, Result.andThen_ok, List.getElem?_toArray, List.getElem?_cons_zero, List.getElem?_cons_succ, hlen, hsz']
            rw [show Nat.min ys.length (hi - lo).toNat = m from hm, hfc m hm1 w rfl]
            simp only [Result.andThen_ok]
            cases A with
            | none =>
              simp only [pure, Sem.run] at hQ ⊢
              cases hQ
              rfl
            | some a =>
              simp only [Sem.run_bind] at hQ ⊢
              rw [hQ]
              rfl
          rcases h8 with h8 | ⟨bb, hbb, rfl⟩
          · -- nothing is copied
            have hm0 : m = 0 := by omega
            subst hm0
            have hnew : zs.take lo.toNat ++ (ys.take (hi - lo).toNat ++ zs.drop (lo.toNat + 0)) = zs := by
              rw [show (hi - lo).toNat = 0 by omega]; simp
            rw [hnew] at hset
            -- the same elements again
            cases hcb : c.b with
            | none =>
              have hz := h3 hcb
              have hH' : H' = H.set id (.row u zs false) ∧ H id = some (.row u zs false) := by
                unfold setArr at hset
                obtain ⟨blk, hb1, hb2⟩ := g.hr id c hc
                rw [hb1] at hset
                unfold arrAt at hA
                rw [hb1] at hA
                cases blk with
                | dead => cases hA
                | row q ws fr =>
                  simp only at hA hset
                  split at hA
                  · cases hA
                    split at hset
                    · rename_i hfr
                      obtain ⟨_, rfl⟩ := hfr
                      simp only [castL, dif_pos, Option.map_some] at hset
                      cases hset
                      exact ⟨rfl, hb1⟩
                    · cases hset
                  · cases hA
                | vars cs =>
                  obtain ⟨_, b', hb', _⟩ := hb2
                  rw [hcb] at hb'; cases hb'
              obtain ⟨rfl, hHid⟩ := hH'
              have hsame : H.set id (.row u zs false) = H := by
                funext j; by_cases e' : j = id
                · subst e'; rw [Heap.set_self, hHid]
                · rw [Heap.set_ne e']
              rw [hsame]
              refine ⟨_, w, hrun w ?_, F, β, g, .refl, RelV.int (by simp [toI]), fun j hj => .inl hj⟩
              cases A with
              | none => simp [pure, Sem.run]
              | some a => simp [storeCells, pure, Sem.run]
            | some bb =>
              obtain ⟨l, hl, hle, hrep⟩ := h2 bb hcb
              obtain ⟨w', s1, s2, s3⟩ := setArr_write (P := P) g hc hcb hA hset rfl hl (k := off) (us := []) (Nat.le_refl _) (by simp) (by simp) (by simpa [splice] using hrep)
              have hw' : w' = w := by simpa [storeCells, pure, Sem.run, eq_comm] using s1
              subst hw'
              refine ⟨_, w', hrun w' ?_, F, β, s2, s3, RelV.int (by simp [toI]), fun j hj => .inl hj⟩
              cases A with
              | none => simp [pure, Sem.run]
              | some a => simp [storeCells, pure, Sem.run]
          · obtain ⟨l, hl, hle, hrep⟩ := h2 bb hbb
            have hlen2 : (zs.take lo.toNat ++ (ys.take (hi - lo).toNat ++ zs.drop (lo.toNat + m))).length = zs.length := by
              simp; omega
            have hul : (vs.take (m * u.sz)).length = m * u.sz := by simp; omega
            have hmz : (lo.toNat + m) * u.sz ≤ zs.length * u.sz := Nat.mul_le_mul_right _ (by omega)
            rw [Nat.add_mul] at hmz
            have hone : ∀ v ∈ vs.take (m * u.sz), v.oneCell' = true := fun v hv => rep_one _ _ _ hvs v (List.mem_of_mem_take hv)
            obtain ⟨_, hvlen, hv3⟩ := rep_ar_iff.1 hvs
            obtain ⟨_, _, hz3⟩ := rep_ar_iff.1 hrep
            have hnew : rep F w (.ar zs.length u) (zs.take lo.toNat ++ (ys.take (hi - lo).toNat ++ zs.drop (lo.toNat + m))) (((splice l (off + lo.toNat * u.sz) (vs.take (m * u.sz))).drop off).take (zs.length * u.sz)) := by
              rw [rep_ar_iff]
              refine ⟨hlen2, by rw [List.length_take, List.length_drop, splice_len _ _ _ (by omega)]; omega, fun i hi' => ?_⟩
              rw [hlen2] at hi'
              have hmi : (i + 1) * u.sz ≤ zs.length * u.sz := Nat.mul_le_mul_right _ hi'
              rw [Nat.add_mul] at hmi
              rw [seg_seg _ (by omega)]
              by_cases c1 : i < lo.toNat
              · have hml : (i + 1) * u.sz ≤ lo.toNat * u.sz := Nat.mul_le_mul_right _ c1
                rw [Nat.add_mul] at hml
                rw [splice_apart _ _ _ (by omega) _ _ (.inl (by omega))]
                have := hz3 i hi'
                rw [seg_seg _ (by omega)] at this
                rw [List.getElem_append_left (by simp; omega)]
                simpa using this
              · by_cases c2 : i < lo.toNat + m
                · have hmj : (i - lo.toNat + 1) * u.sz ≤ m * u.sz := Nat.mul_le_mul_right _ (by omega)
                  rw [Nat.add_mul] at hmj
                  have hij : i * u.sz = lo.toNat * u.sz + (i - lo.toNat) * u.sz := by rw [← Nat.add_mul]; congr 1; omega
                  have e2 := seg_seg (splice l (off + lo.toNat * u.sz) (vs.take (m * u.sz))) (a := off + lo.toNat * u.sz) (n := (vs.take (m * u.sz)).length) (b := (i - lo.toNat) * u.sz) (m := u.sz) (by omega)
                  rw [splice_self _ _ _ (by omega)] at e2
                  rw [show off + i * u.sz = off + lo.toNat * u.sz + (i - lo.toNat) * u.sz by omega, ← e2]
                  have := hv3 (i - lo.toNat) (by omega)
                  have e3 : ((vs.take (m * u.sz)).drop ((i - lo.toNat) * u.sz)).take u.sz = (vs.drop ((i - lo.toNat) * u.sz)).take u.sz := by
                    have := seg_seg vs (a := 0) (n := m * u.sz) (b := (i - lo.toNat) * u.sz) (m := u.sz) (by omega)
                    simpa using this
                  rw [e3]
                  have hg : (zs.take lo.toNat ++ (ys.take (hi - lo).toNat ++ zs.drop (lo.toNat + m)))[i]'(by rw [hlen2]; exact hi') = ys[i - lo.toNat]'(by omega) := by
                    rw [List.getElem_append_right (by simp; omega), List.getElem_append_left (by simp; omega)]
                    simp [show min lo.toNat zs.length = lo.toNat by omega]
                  rw [hg]
                  exact this
                · have hml : (lo.toNat + m) * u.sz ≤ i * u.sz := Nat.mul_le_mul_right _ (by omega)
                  rw [Nat.add_mul] at hml
                  rw [splice_apart _ _ _ (by omega) _ _ (.inr (by omega))]
                  have := hz3 i hi'
                  rw [seg_seg _ (by omega)] at this
                  have hg : (zs.take lo.toNat ++ (ys.take (hi - lo).toNat ++ zs.drop (lo.toNat + m)))[i]'(by rw [hlen2]; exact hi') = zs[i] := by
                    apply Option.some_inj.1
                    rw [← List.getElem?_eq_getElem, ← List.getElem?_eq_getElem]
                    rw [List.getElem?_append_right (by simp; omega), List.getElem?_append_right (by simp; omega), List.getElem?_drop]
                    congr 1
                    simp; omega
                  rw [hg]
                  exact this
            obtain ⟨w', s1, s2, s3⟩ := setArr_write (P := P) g hc hbb hA hset hlen2 hl (k := off + lo.toNat * u.sz) (us := vs.take (m * u.sz)) (by omega) (by omega) hone hnew
            exact ⟨_, w', hrun w' s1, F, β, s2, s3, RelV.int (by simp [toI]), fun j hj => .inl hj⟩
  · cases h

end
end Go.LM
