/- LM: cuts, lengths, stores. -/
import Derived.Test.YtipoadjhenjpiaaLmS6
set_option linter.unusedVariables false
set_option linter.unusedSimpArgs false
namespace Go.LM

section
variable {P : Program} {F : Nat → Prop} {w : World} {β : Nat → Option Conc}

theorem bound_low {d : Int} {lo : Option AV} {lov : Option Value} {l : Int} (h : bound d lo = some l) (hv : ∀ a, lo = some a → ∃ v, lov = some v ∧ RelV F w β a v) (hn : lo = none → lov = none) :
    (lo = none ∧ lov = none ∧ l = d) ∨ ∃ k, lov = some (.int k l) := by
  cases lo with
  | none => simp only [bound] at h; cases h; exact .inl ⟨rfl, hn rfl, rfl⟩
  | some a =>
    right
    obtain ⟨v, hv1, hv2⟩ := hv a rfl
    unfold bound at h
    split at h
    · rename_i e; cases e
    · rename_i k x e
      cases e; cases h
      exact ⟨k, by rw [hv1, hv2.int_inv]⟩
    · cases h

theorem sliceBound_run {k : IntKind} {i : Int} {y : Nat} (code : BoundsCode) (h0 : 0 ≤ i) (h1 : i ≤ y) : (Instr.sliceBound (.int k i) y code).run P w = .ok i.toNat w := by
  unfold Instr.sliceBound
  simp only [Sem.run_bind, asIntOf, pure, Sem.run, Result.andThen_ok]
  rw [if_pos ⟨h0, h1⟩]; rfl

/-- The bounds of a cut without a third one. -/
theorem sliceBounds_run {s : Bool} {len cap : Nat} {lov hiv : Option Value} {l r : Int} (hl : (lov = none ∧ l = 0) ∨ ∃ k, lov = some (.int k l)) (hr : (hiv = none ∧ r = len) ∨ ∃ k, hiv = some (.int k r))
    (h0 : 0 ≤ l) (h1 : l ≤ r) (h2 : r ≤ len) (hc : len ≤ cap) : (Instr.sliceBounds s len cap lov hiv none).run P w = .ok (l.toNat, r.toNat, cap) w := by
  unfold Instr.sliceBounds
  rcases hl with ⟨rfl, rfl⟩ | ⟨k, rfl⟩
  · rcases hr with ⟨rfl, rfl⟩ | ⟨k', rfl⟩
    · simp [pure, Sem.run]
    · simp only [Sem.run_bind, pure, Sem.run, Result.andThen_ok, sliceBound_run _ (show 0 ≤ r by omega) (show r ≤ (cap : Int) by omega)]
      rfl
  · rcases hr with ⟨rfl, rfl⟩ | ⟨k', rfl⟩
    · simp only [Sem.run_bind, pure, Sem.run, Result.andThen_ok, sliceBound_run _ h0 (show l ≤ ((len : Nat) : Int) by omega)]
      rfl
    · have : l ≤ ((r.toNat : Nat) : Int) := by omega
      simp only [Sem.run_bind, pure, Sem.run, Result.andThen_ok, sliceBound_run _ (show 0 ≤ r by omega) (show r ≤ (cap : Int) by omega), sliceBound_run _ h0 this]

theorem bytes_extract (s : List UInt8) (l r : Nat) (h : l ≤ r) (h2 : r ≤ s.length) : (ByteArray.mk s.toArray).extract l r = ⟨((s.drop l).take (r - l)).toArray⟩ := by
  apply ByteArray.ext
  rw [ByteArray.data_extract]
  simp [List.extract_toArray]

theorem sim_slice {X H} (g : Good X F w β H) {T : TypeId} {a v : AV} {lo hi : Option AV} {mx : Bool} {u : Value} {lov hiv mxv : Option Value} (h : exSlice P T H a lo hi mx = some v) (ha : RelV F w β a u)
    (hlo : (∀ x, lo = some x → ∃ y, lov = some y ∧ RelV F w β x y) ∧ (lo = none → lov = none)) (hhi : (∀ x, hi = some x → ∃ y, hiv = some y ∧ RelV F w β x y) ∧ (hi = none → hiv = none)) (hmx : mx = mxv.isSome) :
    ∃ r, (Instr.sliceAt T u lov hiv mxv).run P w = .ok r w ∧ RelV F w β v r := by
  unfold exSlice at h
  split at h
  · cases h
  rename_i hm
  have hmn : mxv = none := by cases mxv with | none => rfl | some x => rw [hmx] at hm; simp at hm
  subst hmn
  -- the two bounds
  have bnd : ∀ {d : Int} {l r : Int}, bound 0 lo = some l → bound d hi = some r → ((lov = none ∧ l = 0) ∨ ∃ k, lov = some (.int k l)) ∧ ((hiv = none ∧ r = d) ∨ ∃ k, hiv = some (.int k r)) := by
    intro d l r h1 h2
    refine ⟨?_, ?_⟩
    · rcases bound_low h1 hlo.1 hlo.2 with ⟨_, h3, h4⟩ | h3
      · exact .inl ⟨h3, h4⟩
      · exact .inr h3
    · rcases bound_low h2 hhi.1 hhi.2 with ⟨_, h3, h4⟩ | h3
      · exact .inl ⟨h3, h4⟩
      · exact .inr h3
  split at h
  · -- a string
    rename_i s hT
    cases hl : bound 0 lo with
    | none => rw [hl] at h; cases h
    | some l =>
    cases hr : bound (s.length : Int) hi with
    | none => rw [hl, hr] at h; cases h
    | some r =>
      rw [hl, hr] at h
      simp only [Option.bind_some] at h
      split at h
      · rename_i hin
        cases h
        rw [ha.str_inv]
        obtain ⟨b1, b2⟩ := bnd hl hr
        have hsz : (ByteArray.mk s.toArray).size = s.length := by simp [ByteArray.size]
        refine ⟨.string ⟨((s.drop l.toNat).take (r - l).toNat).toArray⟩, ?_, RelV.str _⟩
        unfold Instr.sliceAt
        simp only [Sem.run_bind, und hT, Result.andThen_ok]
        unfold Instr.slice
        simp only [Sem.run_bind, und hT, Result.andThen_ok, Option.isSome, Bool.false_eq_true, if_false, pure, Sem.run]
        rw [sliceBounds_run b1 (by rw [hsz]; exact b2) hin.1 hin.2.1 (by rw [hsz]; exact hin.2.2) (by omega)]
        simp only [Result.andThen_ok, Sem.run]
        rw [bytes_extract _ _ _ (by omega) (by omega), show r.toNat - l.toNat = (r - l).toNat by omega]
      · cases h
  · -- foreign data
    rename_i e t xs hT
    split at h
    · rename_i hel
      have hel := elemIs_some hel
      obtain ⟨_, ⟨inf, hi2⟩, hi3, _, _⟩ := tyC_some hel
      cases hl : bound 0 lo with
      | none => rw [hl] at h; cases h
      | some l =>
      cases hr : bound (List.length (α := t.D) xs : Int) hi with
      | none => rw [hl, hr] at h; cases h
      | some r =>
        rw [hl, hr] at h
        simp only [Option.bind_some] at h
        split at h
        · rename_i hin
          cases h
          obtain ⟨b1, b2⟩ := bnd hl hr
          rcases ha.dat_inv with ⟨_, hrep⟩ | ⟨hm', _⟩
          · obtain ⟨A, c, rfl, hc, hx⟩ := slice_elem hrep
            refine ⟨.slice (if c = l.toNat then A else A.map (·.add (l.toNat * t.sz))) (r.toNat - l.toNat) (c - l.toNat), ?_, ?_⟩
            · unfold Instr.sliceAt
              simp only [Sem.run_bind, und hT, Result.andThen_ok]
              unfold Instr.slice
              simp only [Sem.run_bind, und hT, Result.andThen_ok]
              rw [sliceBounds_run b1 b2 hin.1 hin.2.1 hin.2.2 hc]
              simp only [Result.andThen_ok, Sem.run_bind, sizeOf_run hi2, pure, Sem.run, hi3]
            · refine .one _ _ rfl (.dat _ _ _ ?_)
              simp only [rep]
              have hlen : (List.take (r - l).toNat (List.drop l.toNat xs)).length = r.toNat - l.toNat := by
                have : r ≤ (xs.length : Int) := hin.2.2
                simp; omega
              refine ⟨(if c = l.toNat then A else A.map (·.add (l.toNat * t.sz))), c - l.toNat, ?_, by rw [hlen]; omega, ?_⟩
              · rw [hlen]
              · by_cases hz : r.toNat - l.toNat = 0
                · left; rw [hlen]; exact hz
                · right
                  rcases hx with hx | ⟨b, off, rfl, hF, hx⟩
                  · have : r ≤ (xs.length : Int) := hin.2.2
                    omega
                  · have hle : r ≤ (xs.length : Int) := hin.2.2
                    refine ⟨b, off + l.toNat * t.sz, ?_, hF, fun i hi => ?_⟩
                    · rw [if_neg (by omega)]; simp [addr_add]
                    · have hi' : i < r.toNat - l.toNat := by rw [← hlen]; exact hi
                      obtain ⟨us, h1, h2⟩ := hx (l.toNat + i) (by omega)
                      refine ⟨us, ?_, ?_⟩
                      · rw [Nat.add_mul, ← Nat.add_assoc] at h1; exact h1
                      · have : List.get (List.take (r - l).toNat (List.drop l.toNat xs)) ⟨i, hi⟩ = xs[l.toNat + i]'(by omega) := by simp
                        rw [this]; exact h2
          · simp [isMany] at hm'
        · cases h
    · cases h
  · -- a row
    rename_i e id hT
    split at h
    · rename_i t xs hA
      split at h
      · rename_i hel
        have hel := elemIs_some hel
        obtain ⟨_, ⟨inf, hi2⟩, hi3, _, _⟩ := tyC_some hel
        cases hl : bound 0 lo with
        | none => rw [hl] at h; cases h
        | some l =>
        cases hr : bound (xs.length : Int) hi with
        | none => rw [hl, hr] at h; cases h
        | some r =>
          rw [hl, hr] at h
          simp only [Option.bind_some] at h
          split at h
          · rename_i hin
            cases h
            obtain ⟨b1, b2⟩ := bnd hl hr
            obtain ⟨c, t', len, rfl, hc, hsh, hle⟩ := ha.full_inv
            obtain ⟨h1, h2, h3⟩ := arrAt_rel g hA hc
            have hlen : len = xs.length ∧ t' = t := by rw [hsh] at h1; simpa [arrSh] using h1
            obtain ⟨rfl, rfl⟩ := hlen
            refine ⟨.slice (if c.cap = l.toNat then (c.b.map fun b => ⟨b, 0, none⟩) else (c.b.map fun b => (⟨b, 0, none⟩ : Addr)).map (fun z => Addr.add z (l.toNat * t'.sz))) (r.toNat - l.toNat) (c.cap - l.toNat), ?_, ?_⟩
            · unfold Instr.sliceAt
              simp only [Sem.run_bind, und hT, Result.andThen_ok]
              unfold Instr.slice
              simp only [Sem.run_bind, und hT, Result.andThen_ok]
              rw [sliceBounds_run b1 b2 hin.1 hin.2.1 hin.2.2 hle]
              simp only [Result.andThen_ok, Sem.run_bind, sizeOf_run hi2, pure, Sem.run, hi3]
            · rw [show r.toNat - l.toNat = (r - l).toNat by omega]
              refine .one _ _ rfl (.sub id 0 l r c _ t' _ _ hc h1 hin.1 hin.2.1 hin.2.2 (by omega) ?_)
              by_cases e : l = r
              · exact .inl e
              · right
                cases hb : c.b with
                | none =>
                  have := h3 hb
                  subst this
                  simp at hin; omega
                | some b => exact ⟨b, rfl, by rw [if_neg (by omega)]; simp [addr_add]⟩
          · cases h
      · cases h
    · cases h
  · -- a cut of a row or of an array
    rename_i e id off q1 q2 hT
    split at h
    · rename_i t xs hA
      split at h
      · rename_i hel
        have hel := elemIs_some hel
        obtain ⟨_, ⟨inf, hi2⟩, hi3, _, _⟩ := tyC_some hel
        cases hl : bound 0 lo with
        | none => rw [hl] at h; cases h
        | some l =>
        cases hr : bound (q2 - q1) hi with
        | none => rw [hl, hr] at h; cases h
        | some r =>
          rw [hl, hr] at h
          simp only [Option.bind_some] at h
          split at h
          · rename_i hin
            cases h
            obtain ⟨b1, b2⟩ := bnd hl hr
            obtain ⟨c, m, t', A, cap, rfl, hc, hsh, h4, h5, h6, h7, h8⟩ := ha.sub_inv
            obtain ⟨h1, h2, h3⟩ := arrAt_rel g hA hc
            rw [hsh] at h1; cases h1
            refine ⟨.slice (if cap = l.toNat then A else A.map (·.add (l.toNat * t.sz))) (r.toNat - l.toNat) (cap - l.toNat), ?_, ?_⟩
            · unfold Instr.sliceAt
              simp only [Sem.run_bind, und hT, Result.andThen_ok]
              unfold Instr.slice
              simp only [Sem.run_bind, und hT, Result.andThen_ok]
              rw [sliceBounds_run b1 (by rw [show (((q2 - q1).toNat : Nat) : Int) = q2 - q1 by omega]; exact b2) hin.1 hin.2.1 (by omega) h7]
              simp only [Result.andThen_ok, Sem.run_bind, sizeOf_run hi2, pure, Sem.run, hi3]
            · rw [show r.toNat - l.toNat = (q1 + r - (q1 + l)).toNat by omega]
              refine .one _ _ rfl (.sub id off (q1 + l) (q1 + r) c _ t _ _ hc hsh (by omega) (by omega) (by omega) (by omega) ?_)
              by_cases e : l = r
              · left; omega
              · right
                rcases h8 with h8 | ⟨b, hb, rfl⟩
                · omega
                refine ⟨b, hb, ?_⟩
                rw [if_neg (by omega)]
                simp only [Option.map_some, addr_add]
                rw [show (q1 + l).toNat = q1.toNat + l.toNat by omega, Nat.add_mul, Nat.add_assoc]
          · cases h
      · cases h
    · cases h
  · -- an array variable
    rename_i n e id p hT
    split at h
    · rename_i m t hp hA
      split at h
      · rename_i hel
        obtain ⟨hel, rfl⟩ := hel
        have hel := elemIs_some hel
        obtain ⟨_, ⟨inf, hi2⟩, hi3, _, _⟩ := tyC_some hel
        cases hl : bound 0 lo with
        | none => rw [hl] at h; cases h
        | some l =>
        cases hr : bound (n : Int) hi with
        | none => rw [hl, hr] at h; cases h
        | some r =>
          rw [hl, hr] at h
          simp only [Option.bind_some] at h
          split at h
          · rename_i hin
            cases h
            obtain ⟨b1, b2⟩ := bnd hl hr
            obtain ⟨c, b, o, rfl, hc, hb, ho⟩ := ha.ptr_inv
            have hsh := arrLeaf_rel g hA hc
            have hoo : o = p.off := by unfold placeOf at ho; rw [hp] at ho; cases ho; rfl
            subst hoo
            refine ⟨.slice (some (if n = l.toNat then ⟨b, p.off, none⟩ else (⟨b, p.off, none⟩ : Addr).add (l.toNat * t.sz))) (r.toNat - l.toNat) (n - l.toNat), ?_, ?_⟩
            · unfold Instr.sliceAt
              simp only [Sem.run_bind, und hT, Result.andThen_ok, Instr.sureAddr, pure, Sem.run]
              rw [sliceBounds_run b1 b2 hin.1 hin.2.1 hin.2.2 (Nat.le_refl _)]
              simp only [Result.andThen_ok, Sem.run_bind, sizeOf_run hi2, pure, Sem.run, hi3]
            · rw [show r.toNat - l.toNat = (r - l).toNat by omega]
              refine .one _ _ rfl (.sub id p.off l r c _ t _ _ hc hsh hin.1 hin.2.1 hin.2.2 (by omega) ?_)
              by_cases e : l = r
              · exact .inl e
              · right
                exact ⟨b, hb, by rw [if_neg (by omega)]; simp [addr_add]⟩
          · cases h
      · cases h
    · cases h
  · cases h

end
end Go.LM
