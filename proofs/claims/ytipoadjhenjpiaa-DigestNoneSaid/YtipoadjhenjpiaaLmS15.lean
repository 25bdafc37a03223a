/- LM: conversions, rows out of parts, small builtins. -/
import Derived.Test.YtipoadjhenjpiaaLmS14
set_option linter.unusedVariables false
set_option linter.unusedSimpArgs false
namespace Go.LM

section
variable {P : Program} {F : Nat → Prop} {w : World} {β : Nat → Option Conc}

theorem Left.same {X H id0 a r} (g : Good X F w β H) (h : RelV F w β a r) : Left X F w β H id0 a r w := ⟨F, β, g, .refl, h, fun _ hj => .inl hj⟩

theorem int_of_tyC {e : TypeId} {k : IntKind} (hel : tyC P e = some (.int k)) : P.underlying e = some (.int k) := by
  obtain ⟨h1, _⟩ := tyC_some hel
  unfold tyOf at h1
  simp only [TD] at h1
  split at h1
  · rename_i hu; cases h1; exact hu
  · cases h1
  · cases h1
  · cases hq : tyOf P 11 _ with
    | none => rw [hq] at h1; cases h1
    | some q => rw [hq] at h1; cases h1
  · cases hq : tyOf P 11 _ with
    | none => rw [hq] at h1; cases h1
    | some q => rw [hq] at h1; cases h1
  · rename_i fs hu
    cases hl : fs.toList with
    | nil => rw [hl] at h1; cases h1
    | cons f l =>
      rw [hl] at h1
      simp only [fieldsTy] at h1
      cases hq : tyOf P 11 f.type with
      | none => rw [hq] at h1; cases h1
      | some q =>
        rw [hq] at h1
        simp only [Option.bind_some] at h1
        cases hr : fieldsTy (tyOf P 11) l with
        | none => rw [hr] at h1; cases h1
        | some r => rw [hr] at h1; cases h1
  · cases h1

theorem bytes_fold (xs : List UInt8) : ∀ (b : ByteArray), (xs.map fun x => (x.toNat : Int)).foldl (fun r n => r.push (UInt8.ofNat n.toNat)) b = ⟨(b.data.toList ++ xs).toArray⟩ := by
  induction xs with
  | nil => intro b; simp
  | cons x xs ih =>
    intro b
    simp only [List.map_cons, List.foldl_cons]
    rw [ih]
    congr 2
    simp

theorem sim_convert {X H} (g : Good X F w β H) {id0 : Nat} (hid : β id0 = none) {src dst : TypeId} {a x : AV} {H' : Heap} {hd : Bool} (h : exConvert P src dst H id0 a = some (x, H', hd)) {v : Value} (ha : RelV F w β a v) :
    ∃ r w', (convert src dst v).run P w = .ok r w' ∧ Left X F w β H' id0 x r w' := by
  unfold exConvert at h
  split at h
  · rename_i k0 k hs hd'
    split at h
    · rename_i j y
      cases h
      rw [ha.int_inv]
      refine ⟨.int k (k.wrap (toI j y)), w, ?_, Left.same g (RelV.int (toI_wrI _ _))⟩
      simp [convert, und hs, und hd', Conv.intToInt, pure, Sem.run]
    · cases h
  · rename_i hs hd'
    split at h
    · cases h
      rw [ha.str_inv]
      exact ⟨_, w, by simp [convert, und hs, und hd', pure, Sem.run], Left.same g (RelV.str _)⟩
    · cases h
  · rename_i e hs hd'
    split at h
    · rename_i hel
      have hel := elemIs_some hel
      have hue := int_of_tyC hel
      cases hx : asList H (.int .u8) a with
      | none => rw [hx] at h; cases h
      | some xs =>
        rw [hx] at h; cases h
        have hsrc : srcOf P src H (.int .u8) a = some xs := by unfold srcOf; rw [hs]; exact hx
        obtain ⟨_, hlen, vs, hvs, hfc⟩ := src_cells (P := P) g hsrc ha
        have hvv : vs = (xs.map fun b => Value.int .u8 ((UInt8.toNat b : Nat) : Int)) := by
          obtain ⟨h1, h2, h3⟩ := rep_ar_iff.1 hvs
          simp only [Ty.sz, Nat.mul_one] at h2
          apply List.ext_getElem?
          intro i
          by_cases hi : i < xs.length
          · have := h3 i hi
            simp only [rep, Ty.sz, Nat.mul_one] at this
            have h4 := congrArg (fun z => z[0]?) this
            simp only [seg_get] at h4
            simpa [hi, toI] using h4
          · rw [List.getElem?_eq_none (by omega), List.getElem?_eq_none (by simp; omega)]
        refine ⟨.string ⟨xs.toArray⟩, w, ?_, Left.same g (RelV.str xs)⟩
        have hform : ∃ A n c, v = .slice A n c := by
          unfold asList at hx
          split at hx
          · exact ⟨_, _, _, ha.nilS_inv⟩
          · split at hx
            · rename_i hE
              cases ha with
              | one _ _ _ hrc => obtain ⟨A, c, hv, _⟩ := elems_at g hE hrc; exact ⟨A, _, c, hv⟩
              | many _ _ hm _ =>
                exfalso
                unfold elemsOf at hE
                split at hE <;> first | (simp [isMany] at hm; done) | cases hE
              | tup => cases hE
              | any => cases hE
            · cases hx
        obtain ⟨A, n, c, rfl⟩ := hform
        rw [run_convert_bytes_string w src dst e A n c hs hue hd']
        have hn : n = xs.length := by simpa [Builtin.lenOf, pure, Sem.run] using hlen
        subst hn
        have hf := hfc xs.length (Nat.le_refl _) w rfl
        cases A with
        | none =>
          have : xs = [] := by
            simp only [Builtin.firstCells, pure, Sem.run] at hf
            injection hf with hf
            have := congrArg Array.size hf
            rw [hvv] at this
            simp [Ty.sz] at this
            exact List.eq_nil_of_length_eq_zero this.symm
          subst this
          simp [Conv.bytesToString, pure, Sem.run]
          rfl
        | some a =>
          simp only [Builtin.firstCells, Ty.sz, Nat.mul_one] at hf
          rw [List.take_of_length_le (by rw [hvv]; simp), hvv] at hf
          rw [show (xs.map fun b => Value.int .u8 ((UInt8.toNat b : Nat) : Int)) = (xs.map fun x => (x.toNat : Int)).map (Value.int .u8) by simp] at hf
          rw [run_bytesToString w a xs.length c _ hf, bytes_fold]
          simp
    · cases h
  · rename_i e hs hd'
    split at h
    · rename_i hel
      have hel := elemIs_some hel
      split at h
      · rename_i s
        cases h
        rw [ha.str_inv]
        have hue := int_of_tyC hel
        have hsz : (ByteArray.mk s.toArray).size = s.length := by simp [ByteArray.size]
        generalize hcap : (Question.appendCap s.length 0 e).cut (w.tape w.drawn (.appendCap s.length 0 e)) = cap
        have hle : s.length ≤ cap := by rw [← hcap]; unfold Question.cut; simp only; omega
        obtain ⟨c, g', ex, rv⟩ := new_row g hid (t := .int .u8) (xs := s) (vs := s.map fun b : UInt8 => Value.int .u8 (b.toNat : Int)) (rest := List.replicate (cap - s.length) (Value.int .u8 0)) (cap := cap) (rep_bytes s) hle (by simp [Ty.sz]; omega) e (cap, cap + 1) (fun o ho => by simp only [Ty.sz, Nat.mul_one] at ho; omega)
        refine ⟨.slice (some ⟨w.heap.size, 0, none⟩) s.length cap, { w with drawn := w.drawn + 1, heap := w.heap.push (.cells ((s.map fun b : UInt8 => Value.int .u8 (b.toNat : Int)) ++ List.replicate (cap - s.length) (Value.int .u8 0)).toArray e (cap, cap + 1)) }, ?_, F, upd β id0 c, g'.same rfl ⟨rfl, rfl⟩, ex.trans (Ext.same rfl), by refine RelV.same ?_ rv; rfl, fun j hj => ?_⟩
        · simp only [convert, Sem.run_bind, und hs, und hd', und hue, Result.andThen_ok]
          unfold Conv.stringToBytes
          simp only [Sem.run_bind, choose, Sem.run, Question.forced, Bool.false_eq_true, if_false, Result.andThen_ok, hsz, hcap, newRow_run]
          have hmap : Array.map (fun b : UInt8 => Value.int IntKind.u8 (b.toNat : Int)) s.toArray ++ Array.replicate (cap - s.length) (Value.int IntKind.u8 0) = ((s.map fun b : UInt8 => Value.int .u8 (b.toNat : Int)) ++ List.replicate (cap - s.length) (Value.int .u8 0)).toArray := by
            apply Array.ext'; simp
          rw [hmap]
          unfold markStringish
          simp only [Sem.run_bind, shape, Sem.run, World.shape?, Result.andThen_ok]
          simp [freeze, Sem.run, World.freeze, pure]
          have e1 : s.length + (cap - s.length) = cap := by omega
          simp only [e1]
          refine Array.ext (by simp) ?_
          intro i h1 h2
          rw [Array.getElem_modify]
          simp only [Array.getElem_push]
          by_cases hi : i < w.heap.size
          · rw [dif_pos hi, dif_pos hi, if_neg (by omega)]
          · rw [dif_neg hi, dif_neg hi, if_pos (by simp at h2; omega)]
            simp
        · by_cases e' : j = id0
          · exact .inr e'
          · left; rw [upd_ne e'] at hj; exact hj
      · cases h
    · cases h
  · cases h
theorem frz1_row {H : Heap} {k j : Nat} : (∃ t xs fr, frz1 H k j = some (.row t xs fr)) ↔ ∃ t xs fr, H j = some (.row t xs fr) := by
  unfold frz1
  by_cases e : j = k
  · subst e
    rw [if_pos rfl]
    split
    · rename_i t xs fr h; exact ⟨fun _ => ⟨t, xs, fr, h⟩, fun _ => ⟨t, xs, true, rfl⟩⟩
    · exact Iff.rfl
  · rw [if_neg e]

theorem Good.frz1 {X H} (g : Good X F w β H) (id : Nat) : ∃ F', Good X F' w β (frz1 H id) ∧ Ext F w β F' w β ∧ ((∃ t xs fr, H id = some (.row t xs fr)) → ∀ c b, β id = some c → c.b = some b → F' b) := by
  by_cases hr : ∃ t xs fr, H id = some (.row t xs fr)
  · obtain ⟨t, xs, fr, h⟩ := hr
    obtain ⟨F', g', ex, hf⟩ := g.freeze h
    have e : Go.LM.frz1 H id = H.set id (.row t xs true) := by
      funext j
      unfold Go.LM.frz1 Heap.set
      by_cases e : j = id
      · subst e; simp [h]
      · rw [if_neg e, if_neg e]
    rw [e]
    exact ⟨F', g', ex, fun _ => hf⟩
  · have e : Go.LM.frz1 H id = H := by
      funext j
      unfold Go.LM.frz1
      by_cases e : j = id
      · subst e
        rw [if_pos rfl]
        split
        · rename_i t xs fr h; exact absurd ⟨t, xs, fr, h⟩ hr
        · rfl
      · rw [if_neg e]
    rw [e]
    exact ⟨F, g, .refl, fun h => absurd h hr⟩

theorem freezeL_row : ∀ (l : List AV) {H : Heap} {j : Nat}, (∃ t xs fr, freezeL l H j = some (.row t xs fr)) ↔ ∃ t xs fr, H j = some (.row t xs fr)
  | [], _, _ => Iff.rfl
  | a :: l, H, j => by
    cases a with
    | full id => exact (freezeL_row l).trans frz1_row
    | sub id off lo hi => exact (freezeL_row l).trans frz1_row
    | _ => exact freezeL_row l

/-- The rows among leaves are given away. -/
theorem Good.freezeL {X} : ∀ (l : List AV) {F : Nat → Prop} {H : Heap}, Good X F w β H → ∃ F', Good X F' w β (freezeL l H) ∧ Ext F w β F' w β ∧ RowsF F' β (freezeL l H) l
  | [], F, H, g => ⟨F, g, .refl, fun id h => by rcases h with h | ⟨_, _, _, h⟩ <;> cases h⟩
  | a :: l, F, H, g => by
    have one : ∀ id, Go.LM.freezeL (a :: l) H = Go.LM.freezeL l (Go.LM.frz1 H id) → (∀ j, a = .full j → j = id) → (∀ j off lo hi, a = .sub j off lo hi → j = id) →
        ∃ F', Good X F' w β (Go.LM.freezeL (a :: l) H) ∧ Ext F w β F' w β ∧ RowsF F' β (Go.LM.freezeL (a :: l) H) (a :: l) := by
      intro id e h1 h2
      obtain ⟨F1, g1, ex1, hf1⟩ := g.frz1 id
      obtain ⟨F', g', ex, hr⟩ := Good.freezeL l g1
      rw [e]
      refine ⟨F', g', ex1.trans ex, fun j hj hrow => ?_⟩
      have hid : j = id → ∀ c b, β j = some c → c.b = some b → F' b := fun ej c b hc hb => by
        subst ej
        exact (ex.f b (hf1 (frz1_row.1 ((freezeL_row l).1 hrow)) c b hc hb)).1
      rcases hj with hj | ⟨off, lo, hi, hj⟩
      · rcases List.mem_cons.1 hj with e | e
        · exact hid (h1 j e.symm)
        · exact hr j (.inl e) hrow
      · rcases List.mem_cons.1 hj with e | e
        · exact hid (h2 j off lo hi e.symm)
        · exact hr j (.inr ⟨off, lo, hi, e⟩) hrow
    have other : (∀ id, a ≠ .full id) → (∀ id off lo hi, a ≠ .sub id off lo hi) → Go.LM.freezeL (a :: l) H = Go.LM.freezeL l H → ∃ F', Good X F' w β (Go.LM.freezeL (a :: l) H) ∧ Ext F w β F' w β ∧ RowsF F' β (Go.LM.freezeL (a :: l) H) (a :: l) := by
      intro h1 h2 h3
      obtain ⟨F', g', ex, hr⟩ := Good.freezeL l g
      rw [h3]
      refine ⟨F', g', ex, fun id hid => ?_⟩
      rcases hid with hid | ⟨off, lo, hi, hid⟩
      · rcases List.mem_cons.1 hid with e | e
        · exact absurd e.symm (h1 id)
        · exact hr id (.inl e)
      · rcases List.mem_cons.1 hid with e | e
        · exact absurd e.symm (h2 id off lo hi)
        · exact hr id (.inr ⟨off, lo, hi, e⟩)
    cases a with
    | full id => exact one id rfl (fun j e => by injection e with e; exact e.symm) (fun j _ _ _ e => by cases e)
    | sub id off lo hi => exact one id rfl (fun j e => by cases e) (fun j _ _ _ e => by injection e with e; exact e.symm)
    | _ => exact other (by intro id e; cases e) (by intro id off lo hi e; cases e) rfl

end
end Go.LM
