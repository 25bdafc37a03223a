/- LM: laws on data in worlds. -/
import Derived.Test.YtipoadjhenjpiaaLmRel
set_option linter.unusedVariables false
namespace Go.LM

theorem At.len {w b off n vs} (h : At w b off n vs) : vs.length = n := by
  obtain ⟨l, _, h2, rfl⟩ := h
  simp; omega

theorem rep_len {F w} : ∀ (t : Ty) (x : t.D) (vs : List Value), rep F w t x vs → vs.length = t.sz
  | .int _, _, _, h => by simp only [rep] at h; subst h; rfl
  | .bool, _, _, h => by simp only [rep] at h; subst h; rfl
  | .str, _, _, h => by simp only [rep] at h; subst h; rfl
  | .sl _, _, _, h => by simp only [rep] at h; obtain ⟨A, c, rfl, _⟩ := h; rfl
  | .un, _, _, h => by simp only [rep] at h; subst h; rfl
  | .pr a b, x, _, h => by
    simp only [rep] at h
    obtain ⟨us, ws, rfl, h1, h2⟩ := h
    simp [Ty.sz, rep_len a _ _ h1, rep_len b _ _ h2]
  | .ar n e, _, _, h => by simp only [rep] at h; simpa [Ty.sz] using h.2.1

theorem At.mono {w w' b off n vs} (h : At w b off n vs) (e : cellsAt w' b = cellsAt w b) : At w' b off n vs := by
  obtain ⟨l, h1, h2⟩ := h
  exact ⟨l, e.trans h1, h2⟩

theorem rep_mono {F F' : Nat → Prop} {w w' : World} (hF : ∀ b, F b → F' b ∧ cellsAt w' b = cellsAt w b) :
    ∀ (t : Ty) (x : t.D) (vs : List Value), rep F w t x vs → rep F' w' t x vs
  | .int _, _, _, h => by simpa only [rep] using h
  | .bool, _, _, h => by simpa only [rep] using h
  | .str, _, _, h => by simpa only [rep] using h
  | .sl e, xs, _, h => by
    simp only [rep] at h ⊢
    obtain ⟨A, c, h1, h2, h3⟩ := h
    refine ⟨A, c, h1, h2, h3.imp id ?_⟩
    rintro ⟨b, off, hA, hb, hi⟩
    refine ⟨b, off, hA, (hF b hb).1, fun i h => ?_⟩
    obtain ⟨us, hu, hr⟩ := hi i h
    exact ⟨us, hu.mono (hF b hb).2, rep_mono hF e _ _ hr⟩
  | .un, _, _, h => by simpa only [rep] using h
  | .pr a b, x, _, h => by
    simp only [rep] at h ⊢
    obtain ⟨us, ws, h0, h1, h2⟩ := h
    exact ⟨us, ws, h0, rep_mono hF a _ _ h1, rep_mono hF b _ _ h2⟩
  | .ar n e, _, _, h => by
    simp only [rep] at h ⊢
    exact ⟨h.1, h.2.1, fun i hi => rep_mono hF e _ _ (h.2.2 i hi)⟩

structure Ext (F : Nat → Prop) (w : World) (β : Nat → Option Conc) (F' : Nat → Prop) (w' : World) (β' : Nat → Option Conc) : Prop where
  f : ∀ b, F b → F' b ∧ cellsAt w' b = cellsAt w b
  b : ∀ id c, β id = some c → β' id = some c

theorem Ext.refl {F w β} : Ext F w β F w β := ⟨fun _ h => ⟨h, rfl⟩, fun _ _ h => h⟩
theorem Ext.trans {F w β F' w' β' F'' w'' β''} (h : Ext F w β F' w' β') (h' : Ext F' w' β' F'' w'' β'') : Ext F w β F'' w'' β'' :=
  ⟨fun b hb => ⟨(h'.f b (h.f b hb).1).1, (h'.f b (h.f b hb).1).2.trans (h.f b hb).2⟩, fun id c hc => h'.b id c (h.b id c hc)⟩

section
variable {F : Nat → Prop} {w : World} {β : Nat → Option Conc} {F' : Nat → Prop} {w' : World} {β' : Nat → Option Conc}
mutual
theorem RelC.mono (e : Ext F w β F' w' β') : ∀ {a vs}, RelC F w β a vs → RelC F' w' β' a vs
  | _, _, .dat t x vs h => .dat t x vs (rep_mono e.f t x vs h)
  | _, _, .nilS => .nilS
  | _, _, .nilP => .nilP
  | _, _, .nilF => .nilF
  | _, _, .full id c t len h1 h2 h3 => .full id c t len (e.b _ _ h1) h2 h3
  | _, _, .sub id off lo hi c n t A cap h1 h3 h4 h5 h6 h7 h8 => .sub id off lo hi c n t A cap (e.b _ _ h1) h3 h4 h5 h6 h7 h8
  | _, _, .ptr id p c b o h1 h2 h3 => .ptr id p c b o (e.b _ _ h1) h2 h3
  | _, _, .fptr t x b o us h1 h2 h3 => .fptr t x b o us (e.f _ h1).1 (h2.mono (e.f _ h1).2) (rep_mono e.f t x us h3)
  | _, _, .fn f caps vs h => .fn f caps vs (RelVs.mono e h)
  | _, _, .agg xs vs h => .agg xs vs (RelCs.mono e h)
theorem RelCs.mono (e : Ext F w β F' w' β') : ∀ {a vs}, RelCs F w β a vs → RelCs F' w' β' a vs
  | _, _, .nil => .nil
  | _, _, .cons a l us vs h1 h2 h3 => .cons a l us vs (RelC.mono e h1) h2 (RelCs.mono e h3)
theorem RelV.mono (e : Ext F w β F' w' β') : ∀ {a v}, RelV F w β a v → RelV F' w' β' a v
  | _, _, .one a v h1 h2 => .one a v h1 (RelC.mono e h2)
  | _, _, .many a cs h1 h2 => .many a cs h1 (RelC.mono e h2)
  | _, _, .tup xs vs h => .tup xs vs (RelVs.mono e h)
  | _, _, .any v => .any v
theorem RelVs.mono (e : Ext F w β F' w' β') : ∀ {a vs}, RelVs F w β a vs → RelVs F' w' β' a vs
  | _, _, .nil => .nil
  | _, _, .cons a l v vs h1 h2 => .cons a l v vs (RelV.mono e h1) (RelVs.mono e h2)
end
end

theorem RelCs.len {F w β} : ∀ {a vs}, RelCs F w β a vs → vs.length = cellsL a
  | _, _, .nil => rfl
  | _, _, .cons a l us vs _ h2 h3 => by simp [cellsL, h2, h3.len]

theorem RelCs.append {F w β} : ∀ {a vs b us}, RelCs F w β a vs → RelCs F w β b us → RelCs F w β (a ++ b) (vs ++ us)
  | _, _, _, _, .nil, h => h
  | _, _, _, _, .cons a l us vs h1 h2 h3, h => by
    rw [List.cons_append, List.append_assoc]
    exact .cons a _ us _ h1 h2 (h3.append h)

theorem RelCs.split {F w β} : ∀ {a b vs}, RelCs F w β (a ++ b) vs → ∃ us ws, vs = us ++ ws ∧ RelCs F w β a us ∧ RelCs F w β b ws
  | [], b, vs, h => ⟨[], vs, rfl, .nil, h⟩
  | x :: a, b, _, .cons _ _ us vs h1 h2 h3 => by
    obtain ⟨us', ws, rfl, h4, h5⟩ := RelCs.split (a := a) h3
    exact ⟨us ++ us', ws, by simp, .cons x a us us' h1 h2 h4, h5⟩

/-- A datum's leaves have its cells. -/
theorem leavesD_rel {F w β} : ∀ (t : Ty) (x : t.D) (vs : List Value), rep F w t x vs → RelCs F w β (leavesD t x) vs := by
  intro t
  have one : ∀ (t : Ty) (x : t.D) (vs : List Value), rep F w t x vs → leavesD t x = [.dat t x] → RelCs F w β (leavesD t x) vs := by
    intro t x vs h e
    rw [e, ← List.append_nil vs]
    exact .cons _ _ _ _ (.dat t x vs h) (rep_len t x vs h) .nil
  induction t with
  | un => intro x vs h; simp only [rep] at h; subst h; exact .nil
  | pr a b iha ihb =>
    intro x vs h
    simp only [rep] at h
    obtain ⟨us, ws, rfl, h1, h2⟩ := h
    exact (iha _ _ h1).append (ihb _ _ h2)
  | int k => intro x vs h; exact one _ x vs h rfl
  | bool => intro x vs h; exact one _ x vs h rfl
  | str => intro x vs h; exact one _ x vs h rfl
  | sl e => intro x vs h; exact one _ x vs h rfl
  | ar n e => intro x vs h; exact one _ x vs h rfl

/-- The cells of a value: what its leaves are. -/
theorem RelV.leaves {F w β a v} (h : RelV F w β a v) (hne : ∀ xs, a ≠ .tup xs) (ha : a ≠ .any) : RelCs F w β a.leaves v.cells.toList := by
  cases h with
  | one a v h1 h2 =>
    cases a with
    | agg => cases h1
    | tup xs => exact absurd rfl (hne xs)
    | any => exact absurd rfl ha
    | dat t x =>
      cases h2 with
      | dat _ _ _ hr =>
      have hv : v.cells = #[v] := by
        cases t <;> simp [isMany] at h1 <;> simp only [rep] at hr
        · injection hr with e _; subst e; rfl
        · injection hr with e _; subst e; rfl
        · injection hr with e _; subst e; rfl
        · obtain ⟨A, c, e, _⟩ := hr; injection e with e _; subst e; rfl
      rw [hv]
      have hl : (AV.dat t x).leaves = [.dat t x] := by cases t <;> simp [isMany] at h1 <;> rfl
      rw [hl]
      exact .cons _ _ [v] [] (.dat t x _ hr) (rep_len t x _ hr) .nil
    | nilS => cases h2; exact .cons _ _ [_] [] .nilS rfl .nil
    | nilP => cases h2; exact .cons _ _ [_] [] .nilP rfl .nil
    | nilF => cases h2; exact .cons _ _ [_] [] .nilF rfl .nil
    | full id => cases h2 with | full _ c t len h1 h2 h3 => exact .cons _ _ [_] [] (.full id c t len h1 h2 h3) rfl .nil
    | sub id off lo hi => cases h2 with | sub _ _ _ _ c n t A cap h1 h3 h4 h5 h6 h7 h8 => exact .cons _ _ [_] [] (.sub id off lo hi c n t A cap h1 h3 h4 h5 h6 h7 h8) rfl .nil
    | ptr id p => cases h2 with | ptr _ _ c b o h1 h2 h3 => exact .cons _ _ [_] [] (.ptr id p c b o h1 h2 h3) rfl .nil
    | fptr t x => cases h2 with | fptr _ _ b o us h1 h2 h3 => exact .cons _ _ [_] [] (.fptr t x b o us h1 h2 h3) rfl .nil
    | fn f caps => cases h2 with | fn _ _ vs h => exact .cons _ _ [_] [] (.fn f caps vs h) rfl .nil
  | many a cs h1 h2 =>
    show RelCs F w β a.leaves cs
    cases h2 with
    | agg xs vs h => exact h
    | dat t x vs hr =>
      cases t <;> simp [isMany] at h1
      · exact leavesD_rel .un x cs hr
      · exact leavesD_rel (.pr _ _) x cs hr
      · exact leavesD_rel (.ar _ _) x cs hr
    | _ => cases h1
  | tup xs vs _ => exact absurd rfl (hne xs)
  | any v => exact absurd rfl ha

end Go.LM
