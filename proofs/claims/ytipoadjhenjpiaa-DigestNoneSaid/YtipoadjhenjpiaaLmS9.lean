/- LM: literal values, new blocks. -/
import Derived.Test.YtipoadjhenjpiaaLmS8
set_option linter.unusedVariables false
set_option linter.unusedSimpArgs false
namespace Go.LM

section
variable {P : Program} {F : Nat → Prop} {w : World} {β : Nat → Option Conc}

theorem decN_rep {e : Ty} (ih : ∀ (l : List Value) (x : e.D) (r : List Value), decU e l = some (x, r) → ∃ us, l = us ++ r ∧ rep F w e x us) :
    ∀ (n : Nat) (l : List Value) (xs : List e.D) (r : List Value), decN (decU e) n l = some (xs, r) → ∃ us, l = us ++ r ∧ rep F w (.ar n e) xs us := by
  intro n
  induction n with
  | zero => intro l xs r h; simp only [decN] at h; cases h; exact ⟨[], rfl, rep_ar_iff.2 ⟨rfl, by simp, fun i hi => by simp at hi⟩⟩
  | succ n ihn =>
    intro l xs r h
    simp only [decN] at h
    split at h
    · rename_i x r1 h1
      split at h
      · rename_i ys r2 h2
        cases h
        obtain ⟨us, rfl, h3⟩ := ih _ _ _ h1
        obtain ⟨ws, rfl, h4⟩ := ihn _ _ _ h2
        have hu := rep_len _ _ _ h3
        obtain ⟨h5, h6, h7⟩ := rep_ar_iff.1 h4
        refine ⟨us ++ ws, by simp, rep_ar_iff.2 ⟨by simp [h5], by simp [hu, h6, Nat.add_mul]; omega, fun i hi => ?_⟩⟩
        cases i with
        | zero => simp only [Nat.zero_mul, List.drop_zero, List.getElem_cons_zero]; rw [List.take_append_of_le_length (by omega), List.take_of_length_le (by omega)]; exact h3
        | succ i =>
          simp only [List.getElem_cons_succ]
          rw [List.drop_append, List.drop_of_length_le (by rw [Nat.add_mul]; omega), List.nil_append, show (i + 1) * e.sz - us.length = i * e.sz by rw [Nat.add_mul]; omega]
          exact h7 i (by simpa using hi)
      · cases h
    · cases h

theorem decU_rep : ∀ (u : Ty) (l : List Value) (x : u.D) (r : List Value), decU u l = some (x, r) → ∃ us, l = us ++ r ∧ rep F w u x us := by
  intro u
  induction u with
  | int k =>
    intro l x r h
    simp only [decU] at h
    split at h
    · split at h
      · rename_i hk
        cases h
        obtain ⟨rfl, hk⟩ := hk
        exact ⟨[_], rfl, by simp only [rep]; rw [toI_ofI _ _ hk]⟩
      · cases h
    · cases h
  | bool =>
    intro l x r h
    simp only [decU] at h
    split at h
    · cases h; exact ⟨[_], rfl, by simp only [rep]⟩
    · cases h
  | str =>
    intro l x r h
    simp only [decU] at h
    split at h
    · cases h; exact ⟨[_], rfl, by simp only [rep]⟩
    · cases h
  | sl e ih =>
    intro l x r h
    simp only [decU] at h
    split at h
    · cases h; exact ⟨[_], rfl, by simp only [rep]; exact ⟨none, 0, rfl, Nat.le_refl _, .inl rfl⟩⟩
    · cases h
  | un => intro l x r h; simp only [decU] at h; cases h; exact ⟨[], rfl, by simp [rep]⟩
  | pr a b iha ihb =>
    intro l x r h
    simp only [decU] at h
    split at h
    · rename_i y r1 h1
      split at h
      · rename_i z r2 h2
        cases h
        obtain ⟨us, rfl, h3⟩ := iha _ _ _ h1
        obtain ⟨ws, rfl, h4⟩ := ihb _ _ _ h2
        exact ⟨us ++ ws, by simp, by simp only [rep]; exact ⟨us, ws, rfl, h3, h4⟩⟩
      · cases h
    · cases h
  | ar n e ih => intro l x r h; simp only [decU] at h; exact decN_rep ih n l x r h

theorem zeroFields_rel {f : TypeId → List Value → Option (List AV × List Value)} (hf : ∀ T l as r, f T l = some (as, r) → ∃ us, l = us ++ r ∧ RelCs F w β as us) :
    ∀ (fs : List Field) (l : List Value) (as : List AV) (r : List Value), zeroFields f fs l = some (as, r) → ∃ us, l = us ++ r ∧ RelCs F w β as us
  | [], l, as, r, h => by simp only [zeroFields] at h; cases h; exact ⟨[], rfl, .nil⟩
  | x :: fs, l, as, r, h => by
    simp only [zeroFields] at h
    split at h
    · rename_i a r1 h1
      split at h
      · rename_i b r2 h2
        cases h
        obtain ⟨us, rfl, h3⟩ := hf _ _ _ _ h1
        obtain ⟨ws, rfl, h4⟩ := zeroFields_rel hf fs _ _ _ h2
        exact ⟨us ++ ws, by simp, h3.append h4⟩
      · cases h
    · cases h

theorem litL_rel : ∀ (d : Nat) (T : TypeId) (l : List Value) (as : List AV) (r : List Value), litL P d T l = some (as, r) → ∃ us, l = us ++ r ∧ RelCs F w β as us
  | 0, _, _, _, _, h => by cases h
  | d + 1, T, l, as, r, h => by
    have one : ∀ {u : Ty}, (decU u l).map (fun p => ([AV.dat u p.1], p.2)) = some (as, r) → ∃ us, l = us ++ r ∧ RelCs F w β as us := by
      intro u h
      cases hd : decU u l with
      | none => rw [hd] at h; cases h
      | some p =>
        rw [hd] at h; cases h
        obtain ⟨us, h1, h2⟩ := decU_rep (F := F) (w := w) u l p.1 p.2 hd
        refine ⟨us, h1, ?_⟩
        rw [← List.append_nil us]
        exact .cons _ _ _ _ (.dat _ _ _ h2) (rep_len _ _ _ h2) .nil
    unfold litL at h
    split at h
    · cases h; exact ⟨[_], rfl, .cons _ _ [_] [] .nilS rfl .nil⟩
    · cases h; exact ⟨[_], rfl, .cons _ _ [_] [] .nilP rfl .nil⟩
    · cases h; exact ⟨[_], rfl, .cons _ _ [_] [] .nilF rfl .nil⟩
    · split at h
      · rename_i t _
        split at h
        · rename_i x r1 hd
          cases h
          obtain ⟨us, h1, h2⟩ := decU_rep (F := F) (w := w) (.ar _ t) _ _ _ hd
          refine ⟨us, h1, ?_⟩
          rw [← List.append_nil us]
          exact .cons _ _ _ _ (.dat _ _ _ h2) (rep_len _ _ _ h2) .nil
        · cases h
      · cases h
    · exact zeroFields_rel (fun T l as r h => litL_rel d T l as r h) _ _ _ _ h
    · exact one h
    · exact one h
    · exact one h
    · cases h

theorem zero_run {T : TypeId} {z : Value} (h : zeroOf P T = some z) : (zeroValue T).run P w = .ok z w ∧ ∃ i, P.info? T = some i ∧ i.zero = some z := by
  unfold zeroOf at h
  split at h
  · rename_i i hi
    exact ⟨by simp [zeroValue, typeInfo, hi, h], i, hi, h⟩
  · cases h

theorem zeroL_rel {T : TypeId} {ls : List AV} (h : zeroL P T = some ls) : ∃ z, zeroOf P T = some z ∧ RelCs F w β ls z.cells.toList := by
  unfold zeroL at h
  split at h
  · rename_i z hz
    split at h
    · rename_i l hl
      cases h
      obtain ⟨us, h1, h2⟩ := litL_rel (F := F) (w := w) (β := β) _ _ _ _ _ hl
      rw [List.append_nil] at h1
      exact ⟨z, hz, by rw [h1]; exact h2⟩
    · cases h
  · cases h

theorem zeroD_rep {T : TypeId} {u : Ty} {x : u.D} (h : zeroD P T u = some x) : ∃ z, zeroOf P T = some z ∧ rep F w u x z.cells.toList := by
  unfold zeroD at h
  split at h
  · rename_i z hz
    split at h
    · rename_i y hl
      cases h
      obtain ⟨us, h1, h2⟩ := decU_rep (F := F) (w := w) _ _ _ _ hl
      rw [List.append_nil] at h1
      exact ⟨z, hz, by rw [h1]; exact h2⟩
    · cases h
  · cases h

/-! ### new blocks -/
theorem newRow_run (T : TypeId) (cs : Array Value) : (newRow T cs).run P w = .ok ⟨w.heap.size, 0, none⟩ { w with heap := w.heap.push (.cells cs T) } := by
  simp [newRow, newObj, Sem.run, pure]

theorem cellsAt_push (T : TypeId) (cs : Array Value) (fz : Nat × Nat) : cellsAt { w with heap := w.heap.push (.cells cs T fz) } w.heap.size = some cs.toList := by
  unfold cellsAt; simp
theorem frozen_push (T : TypeId) (cs : Array Value) (o : Nat) : World.frozen? { w with heap := w.heap.push (.cells cs T) } ⟨w.heap.size, o, none⟩ = false := by
  unfold World.frozen?; simp

/-- A new variable. -/
theorem new_vars {X H} (g : Good X F w β H) {id0 : Nat} (hid : β id0 = none) {ls : List AV} {vs : List Value} (hr : RelCs F w β ls vs) (hf : flat ls = true) (T : TypeId) :
    ∃ c : Conc, Good X F { w with heap := w.heap.push (.cells vs.toArray T) } (upd β id0 c) (H.set id0 (.vars ls)) ∧ Ext F w β F { w with heap := w.heap.push (.cells vs.toArray T) } (upd β id0 c) ∧
      RelV F { w with heap := w.heap.push (.cells vs.toArray T) } (upd β id0 c) (.ptr id0 ⟨0, []⟩) (.pointer (some ⟨w.heap.size, 0, none⟩)) := by
  refine ⟨⟨some w.heap.size, 0, .vars (ls.map leafSh)⟩, ?_⟩
  have ex0 : Ext F w β F { w with heap := w.heap.push (.cells vs.toArray T) } (upd β id0 ⟨some w.heap.size, 0, .vars (ls.map leafSh)⟩) :=
    ⟨fun b h => ⟨h, cellsAt_of_heap (heap_push_lt (g.fsz b h))⟩, fun j c' h => by rw [upd_ne (fun e => by rw [e, hid] at h; cases h)]; exact h⟩
  obtain ⟨g', ex⟩ := g.new hid (o := .cells vs.toArray T) (c := ⟨some w.heap.size, 0, .vars (ls.map leafSh)⟩) (blk := .vars ls) rfl rfl
    ⟨⟨rfl, hf⟩, _, rfl, ⟨vs, by simpa using cellsAt_push T vs.toArray (0, 0), hr.mono ex0⟩, fun o => frozen_push T _ o⟩
  exact ⟨g', ex, .one _ _ rfl (.ptr _ _ _ _ 0 upd_self rfl rfl)⟩

/-- A new row. -/
theorem new_row {X H} (g : Good X F w β H) {id0 : Nat} (hid : β id0 = none) {t : Ty} {xs : List t.D} {vs rest : List Value} {cap : Nat} (hr : rep F w (.ar xs.length t) xs vs) (hcap : xs.length ≤ cap) (hlen : (vs ++ rest).length = cap * t.sz)
    (T : TypeId) (fz : Nat × Nat) (hfz : ∀ o, o < cap * t.sz → ¬ (fz.1 ≤ o ∧ o < fz.2)) :
    ∃ c : Conc, Good X F { w with heap := w.heap.push (.cells (vs ++ rest).toArray T fz) } (upd β id0 c) (H.set id0 (.row t xs false)) ∧ Ext F w β F { w with heap := w.heap.push (.cells (vs ++ rest).toArray T fz) } (upd β id0 c) ∧
      RelV F { w with heap := w.heap.push (.cells (vs ++ rest).toArray T fz) } (upd β id0 c) (.full id0) (.slice (some ⟨w.heap.size, 0, none⟩) xs.length cap) := by
  refine ⟨⟨some w.heap.size, cap, .row t xs.length⟩, ?_⟩
  have ex0 : Ext F w β F { w with heap := w.heap.push (.cells (vs ++ rest).toArray T fz) } (upd β id0 ⟨some w.heap.size, cap, .row t xs.length⟩) :=
    ⟨fun b h => ⟨h, cellsAt_of_heap (heap_push_lt (g.fsz b h))⟩, fun j c' h => by rw [upd_ne (fun e => by rw [e, hid] at h; cases h)]; exact h⟩
  obtain ⟨h1, h2, h3⟩ := rep_ar_iff.1 hr
  obtain ⟨g', ex⟩ := g.new hid (o := .cells (vs ++ rest).toArray T fz) (c := ⟨some w.heap.size, cap, .row t xs.length⟩) (blk := .row t xs false) rfl rfl (by
    refine ⟨rfl, hcap, (fun e => by cases e), fun b hb => ?_⟩
    cases hb
    refine ⟨⟨vs ++ rest, by simpa using cellsAt_push T (vs ++ rest).toArray fz, hlen.symm, fun i hi => ?_⟩, (fun e => by cases e), fun _ o ho => ?_⟩
    · have hm : (i + 1) * t.sz ≤ xs.length * t.sz := Nat.mul_le_mul_right _ hi
      rw [Nat.add_mul] at hm
      rw [List.drop_append_of_le_length (by omega), List.take_append_of_le_length (by simp; omega)]
      exact rep_mono ex0.f _ _ _ (h3 i hi)
    · have := hfz o ho
      unfold World.frozen?
      simp
      omega)
  exact ⟨g', ex, .one _ _ rfl (.full _ _ _ _ upd_self rfl hcap)⟩

end
end Go.LM
