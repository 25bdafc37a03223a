/- LM: numbers of blocks, turned; what is handed on. -/
import Derived.Test.YtipoadjhenjpiaaLmS15
set_option linter.unusedVariables false
set_option linter.unusedSimpArgs false
namespace Go.LM

section
variable {F F' : Nat → Prop} {w w' : World} {β β' : Nat → Option Conc}

theorem renA_csz (f : Nat → Nat) (a : AV) : (renA f a).csz = a.csz := by cases a <;> simp [renA, AV.csz]
theorem renA_many (f : Nat → Nat) (a : AV) : isMany (renA f a) = isMany a := by
  cases a <;> simp [renA, isMany]
theorem renA_sh (f : Nat → Nat) (a : AV) : leafSh (renA f a) = leafSh a := by cases a <;> simp [renA, leafSh]
theorem renL_map (f : Nat → Nat) : ∀ l : List AV, renL f l = l.map (renA f)
  | [] => rfl
  | a :: l => by simp [renL, renL_map f l]
theorem idsL_mem {id : Nat} : ∀ {l : List AV}, id ∈ idsL l ↔ ∃ a ∈ l, id ∈ idsA a
  | [] => by simp [idsL]
  | a :: l => by simp [idsL, idsL_mem (l := l)]

mutual
theorem RelC.ren {f : Nat → Nat} (hf : ∀ b, F b → F' b ∧ cellsAt w' b = cellsAt w b) : ∀ {a vs}, RelC F w β a vs → (∀ id ∈ idsA a, ∀ c, β id = some c → β' (f id) = some c) → RelC F' w' β' (renA f a) vs
  | _, _, .dat t x vs h, hb => .dat t x vs (rep_mono hf t x vs h)
  | _, _, .nilS, hb => .nilS
  | _, _, .nilP, hb => .nilP
  | _, _, .nilF, hb => .nilF
  | _, _, .full id c t len h1 h2 h3, hb => .full (f id) c t len (hb id (by simp [idsA]) c h1) h2 h3
  | _, _, .sub id off lo hi c n t A cap h1 h3 h4 h5 h6 h7 h8, hb => .sub (f id) off lo hi c n t A cap (hb id (by simp [idsA]) c h1) h3 h4 h5 h6 h7 h8
  | _, _, .ptr id p c b o h1 h2 h3, hb => .ptr (f id) p c b o (hb id (by simp [idsA]) c h1) h2 h3
  | _, _, .fptr t x b o us h1 h2 h3, hb => .fptr t x b o us (hf _ h1).1 (h2.mono (hf _ h1).2) (rep_mono hf t x us h3)
  | _, _, .fn g caps vs h, hb => .fn g (renL f caps) vs (RelVs.ren hf h (fun id hid => hb id (by simpa [idsA] using hid)))
  | _, _, .agg xs vs h, hb => .agg (renL f xs) vs (RelCs.ren hf h (fun id hid => hb id (by simpa [idsA] using hid)))
theorem RelCs.ren {f : Nat → Nat} (hf : ∀ b, F b → F' b ∧ cellsAt w' b = cellsAt w b) : ∀ {l vs}, RelCs F w β l vs → (∀ id ∈ idsL l, ∀ c, β id = some c → β' (f id) = some c) → RelCs F' w' β' (renL f l) vs
  | _, _, .nil, hb => .nil
  | _, _, .cons a l us vs h1 h2 h3, hb => .cons (renA f a) (renL f l) us vs (RelC.ren hf h1 (fun id hid => hb id (by simp [idsL, hid]))) (by rw [renA_csz]; exact h2) (RelCs.ren hf h3 (fun id hid => hb id (by simp [idsL, hid])))
theorem RelV.ren {f : Nat → Nat} (hf : ∀ b, F b → F' b ∧ cellsAt w' b = cellsAt w b) : ∀ {a v}, RelV F w β a v → (∀ id ∈ idsA a, ∀ c, β id = some c → β' (f id) = some c) → RelV F' w' β' (renA f a) v
  | _, _, .one a v h1 h2, hb => .one (renA f a) v (by rw [renA_many]; exact h1) (RelC.ren hf h2 hb)
  | _, _, .many a cs h1 h2, hb => .many (renA f a) cs (by rw [renA_many]; exact h1) (RelC.ren hf h2 hb)
  | _, _, .tup xs vs h, hb => .tup (renL f xs) vs (RelVs.ren hf h (fun id hid => hb id (by simpa [idsA] using hid)))
  | _, _, .any v, hb => .any v
theorem RelVs.ren {f : Nat → Nat} (hf : ∀ b, F b → F' b ∧ cellsAt w' b = cellsAt w b) : ∀ {l vs}, RelVs F w β l vs → (∀ id ∈ idsL l, ∀ c, β id = some c → β' (f id) = some c) → RelVs F' w' β' (renL f l) vs
  | _, _, .nil, hb => .nil
  | _, _, .cons a l v vs h1 h2, hb => .cons (renA f a) (renL f l) v vs (RelV.ren hf h1 (fun id hid => hb id (by simp [idsL, hid]))) (RelVs.ren hf h2 (fun id hid => hb id (by simp [idsL, hid])))
end

theorem BRel.ren {f : Nat → Nat} (hf : ∀ b, F b → F' b ∧ cellsAt w' b = cellsAt w b) {c : Conc} {blk : Blk} (hb : ∀ id ∈ idsB blk, ∀ c, β id = some c → β' (f id) = some c) (h : BRel F w β c blk)
    (hw : ∀ b, c.b = some b → w'.heap[b]? = w.heap[b]?) : BRel F' w' β' c (renB f blk) := by
  cases blk with
  | dead => trivial
  | row t xs fr =>
    obtain ⟨h1, h2, h3, h4⟩ := h
    refine ⟨h1, h2, h3, fun b hcb => ?_⟩
    obtain ⟨⟨l, hl, hsz, hr⟩, h5, h6⟩ := h4 b hcb
    exact ⟨⟨l, (cellsAt_of_heap (hw b hcb)).trans hl, hsz, fun i hi => rep_mono hf _ _ _ (hr i hi)⟩, fun e => (hf b (h5 e)).1, fun e o ho => (frozen_of_heap (hw b hcb) o).trans (h6 e o ho)⟩
  | vars cs =>
    obtain ⟨⟨h1, hfl⟩, b, hcb, ⟨l, hl, hr⟩, h6⟩ := h
    refine ⟨⟨?_, ?_⟩, b, hcb, ⟨l, (cellsAt_of_heap (hw b hcb)).trans hl, RelCs.ren hf hr hb⟩, fun o => (frozen_of_heap (hw b hcb) o).trans (h6 o)⟩
    · rw [h1, renL_map, List.map_map]
      congr 1
      apply List.map_congr_left
      intro a _
      exact (renA_sh f a).symm
    · rw [renL_map]
      unfold flat at hfl ⊢
      rw [List.all_map, ← hfl]
      congr 1
      funext a
      simp [renA_sh, renA_csz]

theorem rep_noSl : ∀ (t : Ty) (x : t.D) (vs : List Value), t.hasSl = false → rep F w t x vs → rep F' w' t x vs
  | .int _, _, _, _, h => by simpa only [rep] using h
  | .bool, _, _, _, h => by simpa only [rep] using h
  | .str, _, _, _, h => by simpa only [rep] using h
  | .sl _, _, _, hs, _ => by cases hs
  | .un, _, _, _, h => by simpa only [rep] using h
  | .pr a b, x, _, hs, h => by
    simp only [Ty.hasSl, Bool.or_eq_false_iff] at hs
    simp only [rep] at h ⊢
    obtain ⟨us, ws, h0, h1, h2⟩ := h
    exact ⟨us, ws, h0, rep_noSl a _ _ hs.1 h1, rep_noSl b _ _ hs.2 h2⟩
  | .ar n e, _, _, hs, h => by
    simp only [Ty.hasSl] at hs
    simp only [rep] at h ⊢
    exact ⟨h.1, h.2.1, fun i hi => rep_noSl e _ _ hs (h.2.2 i hi)⟩

mutual
theorem RelC.noSl : ∀ {a vs}, RelC F w β a vs → noSl a = true → RelC F' w' β a vs
  | _, _, .dat t x vs h, hs => .dat t x vs (rep_noSl t x vs (by simpa [LM.noSl] using hs) h)
  | _, _, .nilS, _ => .nilS
  | _, _, .nilP, _ => .nilP
  | _, _, .nilF, _ => .nilF
  | _, _, .full id c t len h1 h2 h3, _ => .full id c t len h1 h2 h3
  | _, _, .sub id off lo hi c n t A cap h1 h3 h4 h5 h6 h7 h8, _ => .sub id off lo hi c n t A cap h1 h3 h4 h5 h6 h7 h8
  | _, _, .ptr id p c b o h1 h2 h3, _ => .ptr id p c b o h1 h2 h3
  | _, _, .fptr t x b o us h1 h2 h3, hs => by simp [LM.noSl] at hs
  | _, _, .fn g caps vs h, hs => .fn g caps vs (RelVs.noSl h (by simpa [LM.noSl] using hs))
  | _, _, .agg xs vs h, hs => .agg xs vs (RelCs.noSl h (by simpa [LM.noSl] using hs))
theorem RelCs.noSl : ∀ {l vs}, RelCs F w β l vs → noSlL l = true → RelCs F' w' β l vs
  | _, _, .nil, _ => .nil
  | _, _, .cons a l us vs h1 h2 h3, hs => .cons a l us vs (RelC.noSl h1 (by simp [noSlL] at hs; exact hs.1)) h2 (RelCs.noSl h3 (by simp [noSlL] at hs; exact hs.2))
theorem RelV.noSl : ∀ {a v}, RelV F w β a v → noSl a = true → RelV F' w' β a v
  | _, _, .one a v h1 h2, hs => .one a v h1 (RelC.noSl h2 hs)
  | _, _, .many a cs h1 h2, hs => .many a cs h1 (RelC.noSl h2 hs)
  | _, _, .tup xs vs h, hs => .tup xs vs (RelVs.noSl h (by simpa [LM.noSl] using hs))
  | _, _, .any v, _ => .any v
theorem RelVs.noSl : ∀ {l vs}, RelVs F w β l vs → noSlL l = true → RelVs F' w' β l vs
  | _, _, .nil, _ => .nil
  | _, _, .cons a l v vs h1 h2, hs => .cons a l v vs (RelV.noSl h1 (by simp [noSlL] at hs; exact hs.1)) (RelVs.noSl h2 (by simp [noSlL] at hs; exact hs.2))
end

theorem BRel.noSl {c : Conc} {blk : Blk} (hs : noSlB (some blk) = true) (h : BRel F w β c blk) : BRel F' w β c blk := by
  cases blk with
  | dead => trivial
  | row t xs fr =>
    simp only [noSlB, Bool.and_eq_true, Bool.not_eq_true'] at hs
    obtain ⟨h1, h2, h3, h4⟩ := h
    refine ⟨h1, h2, h3, fun b hcb => ?_⟩
    obtain ⟨⟨l, hl, hsz, hr⟩, h5, h6⟩ := h4 b hcb
    refine ⟨⟨l, hl, hsz, fun i hi => rep_noSl _ _ _ hs.1 (hr i hi)⟩, fun e => ?_, h6⟩
    rw [hs.2] at e; cases e
  | vars cs =>
    obtain ⟨h0, b, hcb, ⟨l, hl, hr⟩, h6⟩ := h
    exact ⟨h0, b, hcb, ⟨l, hl, hr.noSl (by simpa [noSlB] using hs)⟩, h6⟩

/-! ### what is handed on as data -/
theorem RowsF.mono {H : Heap} {l l' : List AV} (h : RowsF F β H l) (hs : ∀ a ∈ l', a ∈ l) : RowsF F β H l' :=
  fun id hid => h id (hid.imp (hs _) fun ⟨o, lo, hi, h⟩ => ⟨o, lo, hi, hs _ h⟩)

theorem RelC.one {a : AV} {v : Value} (h : RelV F w β a v) (hm : isMany a = false) (hv : isVal a = true) : RelC F w β a [v] := by
  cases h with
  | one _ _ _ h => exact h
  | many _ _ hm' _ => rw [hm] at hm'; cases hm'
  | tup => cases hv
  | any => cases hv

mutual
theorem exportA_rel {X H} (g : Good X F w β H) : ∀ {a a' : AV} {vs : List Value}, exportA H a = some a' → RelC F w β a vs → RowsF F β H [a] → (∀ xs, a = .agg xs → RowsF F β H xs) → RelC F w β a' vs ∧ isMany a' = isMany a ∧ a'.csz = a.csz
  | .full id, a', vs, h, hr, hF, _ => by
    simp only [exportA] at h
    split at h
    · rename_i hrow
      cases hA : arrAt H id 0 with
      | none => rw [hA] at h; cases h
      | some p =>
        obtain ⟨t, xs⟩ := p
        rw [hA] at h; cases h
        exact ⟨.dat _ _ _ (elems_rep g (a := .full id) hA hr hrow hF), rfl, rfl⟩
    · cases h
  | .sub id off lo hi, a', vs, h, hr, hF, _ => by
    simp only [exportA] at h
    split at h
    · rename_i hrow
      cases hA : elemsOf H (.sub id off lo hi) with
      | none => rw [hA] at h; cases h
      | some p =>
        obtain ⟨t, xs⟩ := p
        rw [hA] at h; cases h
        exact ⟨.dat _ _ _ (elems_rep g (a := .sub id off lo hi) hA hr hrow hF), rfl, rfl⟩
    · cases h
  | .nilS, a', vs, h, hr, _, _ => by simp only [exportA] at h; cases h; exact ⟨hr, rfl, rfl⟩
  | .agg xs, a', vs, h, hr, _, hF => by
    simp only [exportA] at h
    cases hx : exportL H xs with
    | none => rw [hx] at h; cases h
    | some ys =>
      rw [hx] at h; cases h
      cases hr with
      | agg _ _ hr => exact ⟨.agg _ _ (exportL_rel g hx hr (hF xs rfl)), rfl, rfl⟩
  | .dat t x, a', vs, h, hr, _, _ => by simp only [exportA] at h; cases h; exact ⟨hr, rfl, rfl⟩
  | .nilP, a', vs, h, hr, _, _ => by simp only [exportA] at h; cases h; exact ⟨hr, rfl, rfl⟩
  | .nilF, a', vs, h, hr, _, _ => by simp only [exportA] at h; cases h; exact ⟨hr, rfl, rfl⟩
  | .ptr id p, a', vs, h, hr, _, _ => by simp only [exportA] at h; cases h; exact ⟨hr, rfl, rfl⟩
  | .fptr t x, a', vs, h, hr, _, _ => by simp only [exportA] at h; cases h; exact ⟨hr, rfl, rfl⟩
  | .fn f cs, a', vs, h, hr, _, _ => by simp only [exportA] at h; cases h; exact ⟨hr, rfl, rfl⟩
  | .tup xs, a', vs, h, hr, _, _ => by cases hr
  | .any, a', vs, h, hr, _, _ => by cases hr
theorem exportL_rel {X H} (g : Good X F w β H) : ∀ {l l' : List AV} {vs : List Value}, exportL H l = some l' → RelCs F w β l vs → RowsF F β H l → RelCs F w β l' vs
  | [], l', vs, h, hr, _ => by simp only [exportL] at h; cases h; exact hr
  | a :: l, l', _, h, .cons _ _ us vs h1 h2 h3, hF => by
    simp only [exportL] at h
    cases ha : exportA H a with
    | none => rw [ha] at h; cases h
    | some b =>
      cases hl : exportL H l with
      | none => rw [ha, hl] at h; cases h
      | some m =>
        rw [ha, hl] at h; cases h
        have hagg : ∀ xs, a = .agg xs → RowsF F β H xs := by
          intro xs e
          subst e
          simp only [AV.csz] at h2
          have hus : us = [] := List.eq_nil_of_length_eq_zero h2
          cases h1 with
          | agg _ _ hx =>
          subst hus
          -- leaves without cells hold no row
          have key : ∀ (xs : List AV) (vs : List Value), RelCs F w β xs vs → vs = [] → RowsF F β H xs := by
            intro xs
            induction xs with
            | nil => intro vs _ _ id hid; rcases hid with hid | ⟨_, _, _, hid⟩ <;> cases hid
            | cons x xs ih =>
              intro vs hr hv
              cases hr with
              | cons _ _ us vs h1 h2 h3 =>
              have h4 := List.append_eq_nil_iff.1 hv
              have ihx := ih vs h3 h4.2
              rw [h4.1] at h1
              intro id hid
              rcases hid with hid | ⟨off, lo, hi, hid⟩
              · rcases List.mem_cons.1 hid with e | e
                · subst e; cases h1
                · exact ihx id (.inl e)
              · rcases List.mem_cons.1 hid with e | e
                · subst e; cases h1
                · exact ihx id (.inr ⟨off, lo, hi, e⟩)
          exact key xs [] hx rfl
        obtain ⟨h4, _, h5⟩ := exportA_rel g ha h1 hF.cons.1 hagg
        exact .cons _ _ us vs h4 (by rw [h5]; exact h2) (exportL_rel g hl h3 hF.cons.2)
end

theorem exportV_rel {X H} (g : Good X F w β H) {a a' : AV} {v : Value} (h : exportA H a = some a') (hr : RelV F w β a v) (hF : RowsF F β H a.leaves) : RelV F w β a' v := by
  cases hr with
  | one _ _ hm hc =>
    have hl : a.leaves = [a] := by
      cases a with
      | dat t x => cases t <;> simp [isMany] at hm <;> rfl
      | agg _ => simp [isMany] at hm
      | _ => rfl
    rw [hl] at hF
    obtain ⟨h1, h2, _⟩ := exportA_rel g h hc hF (fun xs e => by subst e; simp [isMany] at hm)
    exact .one _ _ (by rw [h2]; exact hm) h1
  | many _ cs hm hc =>
    cases a with
    | dat t x => simp only [exportA] at h; cases h; exact .many _ _ hm hc
    | agg xs =>
      obtain ⟨h1, h2, _⟩ := exportA_rel g h hc (fun id hid => by rcases hid with hid | ⟨_, _, _, hid⟩ <;> simp at hid) (fun ys e => by injection e with e; subst e; exact hF)
      exact .many _ _ (by rw [h2]; exact hm) h1
    | _ => simp [isMany] at hm
  | tup xs vs hx => simp only [exportA] at h; cases h; exact .tup xs vs hx
  | any v => simp only [exportA] at h; cases h; exact .any v

theorem exportAll_rel {X H} (g : Good X F w β H) : ∀ {m : List Bool} {l l' : List AV} {vs : List Value}, exportAll H m l = some l' → RelVs F w β l vs → RowsF F β H (lentRows m l) → RelVs F w β l' vs := by
  intro m l
  induction l generalizing m with
  | nil => intro l' vs h hr hF; simp only [exportAll] at h; cases h; exact hr
  | cons a l ih =>
    intro l' vs h hr hF
    cases hr with
    | cons _ _ v vs h1 h2 =>
    have data : ∀ m', (exportA H a).bind (fun b => (exportAll H m' l).map (b :: ·)) = some l' → RowsF F β H (a.leaves ++ lentRows m' l) → RelVs F w β l' (v :: vs) := by
      intro m' h hF
      cases ha : exportA H a with
      | none => rw [ha] at h; cases h
      | some b =>
        cases hl : exportAll H m' l with
        | none => rw [ha, hl] at h; cases h
        | some l2 =>
          rw [ha, hl] at h; cases h
          exact .cons _ _ _ _ (exportV_rel g ha h1 (hF.mono fun x hx => List.mem_append_left _ hx)) (ih hl h2 (hF.mono fun x hx => List.mem_append_right _ hx))
    cases m with
    | nil => exact data [] h hF
    | cons b m =>
      cases b with
      | false => exact data m h hF
      | true =>
        simp only [exportAll] at h
        cases hl : exportAll H m l with
        | none => rw [hl] at h; cases h
        | some l2 =>
          rw [hl] at h; cases h
          exact .cons _ _ _ _ h1 (ih hl h2 hF)
end
end Go.LM
