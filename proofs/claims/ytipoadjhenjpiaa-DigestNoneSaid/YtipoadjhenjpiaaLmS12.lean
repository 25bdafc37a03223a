/- LM: conversions, append, copy. -/
import Derived.Test.YtipoadjhenjpiaaLmS11
set_option linter.unusedVariables false
set_option linter.unusedSimpArgs false
namespace Go.LM

section
variable {P : Program} {F : Nat → Prop} {w : World} {β : Nat → Option Conc}

theorem Good.kill {X H} (g : Good X F w β H) (id : Nat) : Good X F w β (H.set id .dead) := by
  have ow : ∀ j, ownB ((H.set id .dead) j) = true → j ≠ id ∧ ownB (H j) = true := fun j h => by
    by_cases e : j = id
    · subst e; rw [Heap.set_self] at h; cases h
    · rw [Heap.set_ne e] at h; exact ⟨e, h⟩
  refine ⟨fun j c h => ?_, fun j c b h1 h2 h3 => g.own j c b h1 (ow _ h2).2 h3, fun j j' c1 c2 b h1 h2 h3 h4 h5 h6 => g.uniq j j' c1 c2 b h1 h2 (ow _ h3).2 (ow _ h4).2 h5 h6, g.fsz, g.fext, g.fmono, g.frame, g.gsz, g.size, g.tame⟩
  by_cases e : j = id
  · subst e; exact ⟨.dead, Heap.set_self, trivial⟩
  · obtain ⟨blk, h1, h2⟩ := g.hr j c h
    exact ⟨blk, by rw [Heap.set_ne e]; exact h1, h2⟩

theorem Good.nilRow {X H} (g : Good X F w β H) {id0 : Nat} (hid : β id0 = none) (t : Ty) :
    Good X F w (upd β id0 ⟨none, 0, .row t 0⟩) (H.set id0 (.row t [] false)) ∧ Ext F w β F w (upd β id0 ⟨none, 0, .row t 0⟩) ∧ RelV F w (upd β id0 ⟨none, 0, .row t 0⟩) (.full id0) (.slice none 0 0) := by
  have ex : Ext F w β F w (upd β id0 ⟨none, 0, .row t 0⟩) := ⟨fun b h => ⟨h, rfl⟩, fun j c' h => by rw [upd_ne (fun e => by rw [e, hid] at h; cases h)]; exact h⟩
  refine ⟨⟨fun j c h => ?_, fun j c b h1 h2 h3 => ?_, fun j j' c1 c2 b h1 h2 h3 h4 h5 h6 => ?_, g.fsz, g.fext, g.fmono, g.frame, g.gsz, g.size, g.tame⟩, ex, .one _ _ rfl (.full _ _ _ _ upd_self rfl (Nat.le_refl _))⟩
  · by_cases e : j = id0
    · subst e; rw [upd_self] at h; cases h
      exact ⟨_, Heap.set_self, rfl, Nat.le_refl _, fun _ => ⟨rfl, rfl⟩, fun b hb => by cases hb⟩
    · rw [upd_ne e] at h
      obtain ⟨blk, h1, h2⟩ := g.hr j c h
      exact ⟨blk, by rw [Heap.set_ne e]; exact h1, h2.mono ex fun _ _ => rfl⟩
  · by_cases e : j = id0
    · subst e; rw [upd_self] at h1; cases h1; cases h3
    · rw [upd_ne e] at h1; rw [Heap.set_ne e] at h2; exact g.own j c b h1 h2 h3
  · by_cases e : j = id0
    · subst e; rw [upd_self] at h1; cases h1; cases h5
    · by_cases e' : j' = id0
      · subst e'; rw [upd_self] at h2; cases h2; cases h6
      · rw [upd_ne e] at h1; rw [upd_ne e'] at h2; rw [Heap.set_ne e] at h3; rw [Heap.set_ne e'] at h4
        exact g.uniq j j' c1 c2 b h1 h2 h3 h4 h5 h6

/-- A row goes on under another name. -/
theorem Good.moveRow {X H} (g : Good X F w β H) {id id0 : Nat} (hid0 : β id0 = none) {c c' : Conc} (hid : β id = some c) (hown : ownB (H id) = true) (hb : c'.b = c.b) {w' : World}
    (hw : ∀ b', c.b ≠ some b' → w'.heap[b']? = w.heap[b']?) (hsz : w'.heap.size = w.heap.size) (eo : w'.os = w.os ∧ w'.output = w.output) {t : Ty} {ys : List t.D} (hB : Ext F w β F w' (upd β id0 c') → BRel F w' (upd β id0 c') c' (.row t ys false)) :
    Good X F w' (upd β id0 c') ((H.set id .dead).set id0 (.row t ys false)) ∧ Ext F w β F w' (upd β id0 c') := by
  have hne : id ≠ id0 := fun e => by rw [e, hid0] at hid; cases hid
  have ex : Ext F w β F w' (upd β id0 c') := ⟨fun b h => ⟨h, cellsAt_of_heap (hw b fun e => (g.own id c b hid hown e).1 h)⟩, fun j c'' h => by rw [upd_ne (fun e => by rw [e, hid0] at h; cases h)]; exact h⟩
  have ow : ∀ j, j ≠ id0 → ownB (((H.set id .dead).set id0 (.row t ys false)) j) = true → j ≠ id ∧ ownB (H j) = true := fun j hj h => by
    rw [Heap.set_ne hj] at h
    by_cases e : j = id
    · subst e; rw [Heap.set_self] at h; cases h
    · rw [Heap.set_ne e] at h; exact ⟨e, h⟩
  refine ⟨⟨fun j c1 h => ?_, fun j c1 b h1 h2 h3 => ?_, fun j j' c1 c2 b h1 h2 h3 h4 h5 h6 => ?_, fun b h => hsz ▸ g.fsz b h, g.fext, g.fmono, fun b h => ?_, g.gsz, hsz ▸ g.size, ⟨eo.1.trans g.tame.1, eo.2.trans g.tame.2⟩⟩, ex⟩
  · by_cases e : j = id0
    · subst e; rw [upd_self] at h; cases h
      exact ⟨_, Heap.set_self, hB ex⟩
    · rw [upd_ne e] at h
      by_cases e' : j = id
      · subst e'
        exact ⟨.dead, by rw [Heap.set_ne e, Heap.set_self], trivial⟩
      · obtain ⟨blk, h1, h2⟩ := g.hr j c1 h
        refine ⟨blk, by rw [Heap.set_ne e, Heap.set_ne e']; exact h1, ?_⟩
        cases blk with
        | dead => trivial
        | row u xs fr =>
          refine h2.mono ex fun b hb' => hw b fun eb => ?_
          cases fr with
          | true => exact (g.own id c b hid hown eb).1 ((h2.2.2.2 b hb').2.1 rfl)
          | false => exact e' (g.uniq j id c1 c b h hid (by rw [h1]; rfl) hown hb' eb)
        | vars cs =>
          exact h2.mono ex fun b hb' => hw b fun eb => e' (g.uniq j id c1 c b h hid (by rw [h1]; rfl) hown hb' eb)
  · by_cases e : j = id0
    · subst e; rw [upd_self] at h1; cases h1
      rw [hb] at h3
      obtain ⟨a1, a2, a3⟩ := g.own id c b hid hown h3
      exact ⟨a1, a2, hsz ▸ a3⟩
    · rw [upd_ne e] at h1
      obtain ⟨a1, a2, a3⟩ := g.own j c1 b h1 (ow j e h2).2 h3
      exact ⟨a1, a2, hsz ▸ a3⟩
  · by_cases e : j = id0
    · by_cases e' : j' = id0
      · rw [e, e']
      · subst e; rw [upd_self] at h1; cases h1
        rw [upd_ne e'] at h2
        rw [hb] at h5
        exact absurd (g.uniq j' id c2 c b h2 hid (ow j' e' h4).2 hown h6 h5) (ow j' e' h4).1
    · by_cases e' : j' = id0
      · subst e'; rw [upd_self] at h2; cases h2
        rw [upd_ne e] at h1
        rw [hb] at h6
        exact absurd (g.uniq j id c1 c b h1 hid (ow j e h3).2 hown h5 h6) (ow j e h3).1
      · rw [upd_ne e] at h1; rw [upd_ne e'] at h2
        exact g.uniq j j' c1 c2 b h1 h2 (ow j e h3).2 (ow j' e' h4).2 h5 h6
  · refine (hw b fun e => (g.own id c b hid hown e).2.1 h).trans (g.frame b h)

/-- Where a slice's elements lie. -/
theorem elems_at {X H} (g : Good X F w β H) {a : AV} {t : Ty} {xs : List t.D} (h : elemsOf H a = some ⟨t, xs⟩) {v : Value} (hr : RelC F w β a [v]) :
    ∃ A c, v = .slice A xs.length c ∧ xs.length ≤ c ∧ (xs.length = 0 ∨ ∃ b off, A = some ⟨b, off, none⟩ ∧ ∃ l, cellsAt w b = some l ∧ off + xs.length * t.sz ≤ l.length ∧ rep F w (.ar xs.length t) xs ((l.drop off).take (xs.length * t.sz))) := by
  unfold elemsOf at h
  split at h
  · rename_i t' ys
    cases h; cases hr with
    | dat _ _ _ h =>
    obtain ⟨A, c, h1, h2, h3 | ⟨b, off, h3, h4, h5⟩⟩ := slice_elem h
    · exact ⟨A, c, h1, h2, .inl h3⟩
    · refine ⟨A, c, h1, h2, ?_⟩
      by_cases hz : xs.length = 0
      · exact .inl hz
      · right
        obtain ⟨us0, ⟨l, hl, _, _⟩, _⟩ := h5 0 (by omega)
        have hb : ∀ i, i < xs.length → off + i * t.sz + t.sz ≤ l.length := fun i hi => by
          obtain ⟨us, ⟨l', hl', hle, _⟩, _⟩ := h5 i hi
          rw [hl] at hl'; cases hl'; exact hle
        have hlast := hb (xs.length - 1) (by omega)
        have hm : (xs.length - 1) * t.sz + t.sz = xs.length * t.sz := by
          rw [← Nat.succ_mul]; congr 1; omega
        refine ⟨b, off, h3, l, hl, by omega, rep_ar_iff.2 ⟨rfl, by simp; omega, fun i hi => ?_⟩⟩
        obtain ⟨us, ⟨l', hl', hle, rfl⟩, hrep⟩ := h5 i hi
        rw [hl] at hl'; cases hl'
        have hm2 : (i + 1) * t.sz ≤ xs.length * t.sz := Nat.mul_le_mul_right _ hi
        rw [Nat.add_mul] at hm2
        rw [seg_seg _ (by omega)]
        exact hrep
  · rename_i id
    cases hr with
    | full _ c t' len hc hsh hle =>
    obtain ⟨h1, h2, h3⟩ := arrAt_rel g h hc
    have : len = xs.length := by rw [hsh] at h1; simp [arrSh] at h1; omega
    subst this
    refine ⟨_, _, rfl, hle, ?_⟩
    cases hb : c.b with
    | none => left; rw [h3 hb]; rfl
    | some b =>
      right
      obtain ⟨l, hl, hle2, hrep⟩ := h2 b hb
      exact ⟨b, 0, rfl, l, hl, hle2, hrep⟩
  · rename_i id off lo hi
    split at h
    · rename_i t' ys hA
      cases h
      cases hr with
      | sub _ _ _ _ c n t' A cap hc hsh h4 h5 h6 h7 h8 =>
      obtain ⟨h1, h2, h3⟩ := arrAt_rel g hA hc
      rw [hsh] at h1; cases h1
      have hlen : (List.take (hi - lo).toNat (List.drop lo.toNat ys)).length = (hi - lo).toNat := by simp; omega
      refine ⟨A, cap, by rw [hlen], by rw [hlen]; exact h7, ?_⟩
      rcases h8 with h8 | ⟨b, hb, rfl⟩
      · left; rw [hlen]; omega
      · right
        obtain ⟨l, hl, hle2, hrep⟩ := h2 b hb
        obtain ⟨_, _, h9⟩ := rep_ar_iff.1 hrep
        have hmm : (lo.toNat + (hi - lo).toNat) * t.sz ≤ ys.length * t.sz := Nat.mul_le_mul_right _ (by omega)
        rw [Nat.add_mul] at hmm
        refine ⟨b, off + lo.toNat * t.sz, rfl, l, hl, by rw [hlen]; omega, rep_ar_iff.2 ⟨rfl, by rw [hlen]; simp; omega, fun i hi' => ?_⟩⟩
        have hi'' : i < (hi - lo).toNat := by rw [← hlen]; exact hi'
        have hlt : lo.toNat + i < ys.length := by omega
        have hm : (lo.toNat + i + 1) * t.sz ≤ ys.length * t.sz := Nat.mul_le_mul_right _ hlt
        rw [Nat.add_mul, Nat.add_mul] at hm
        have hm3 : (i + 1) * t.sz ≤ (hi - lo).toNat * t.sz := Nat.mul_le_mul_right _ hi''
        rw [Nat.add_mul] at hm3
        have := h9 (lo.toNat + i) hlt
        rw [Nat.add_mul, seg_seg _ (by omega), ← Nat.add_assoc] at this
        rw [hlen, seg_seg _ (by omega)]
        have hg : (List.take (hi - lo).toNat (List.drop lo.toNat ys))[i] = ys[lo.toNat + i] := by simp
        rw [hg]
        exact this
    · cases h
  · cases h

theorem rep_bytes (s : List UInt8) : rep F w (.ar s.length (.int .u8)) s (s.map fun b => .int .u8 (b.toNat : Int)) := by
  rw [rep_ar_iff]
  refine ⟨rfl, by simp [Ty.sz], fun i hi => ?_⟩
  simp only [rep, Ty.sz, Nat.mul_one]
  apply List.ext_getElem?
  intro j
  rw [seg_get]
  have hi' : i < s.length := hi
  cases j with
  | zero => simp [hi', toI]
  | succ j => rw [if_neg (by omega)]; simp

/-- What is appended or copied: its cells. -/
theorem src_cells {X H} (g : Good X F w β H) {U : TypeId} {t : Ty} {b : AV} {ys : List t.D} (h : srcOf P U H t b = some ys) {v : Value} (hr : RelV F w β b v) :
    (∃ d, P.underlying U = some d ∧ (∀ k, d ≠ .int k)) ∧ (Builtin.lenOf v).run P w = .ok ys.length w ∧
    ∃ vs, rep F w (.ar ys.length t) ys vs ∧ ∀ n, n ≤ ys.length → ∀ w', w'.heap = w.heap → (Builtin.firstCells t.sz n v).run P w' = .ok (vs.take (n * t.sz)).toArray w' := by
  unfold srcOf at h
  split at h
  · rename_i hU
    split at h
    · rename_i s
      obtain ⟨e, he⟩ := castL_some h
      subst e
      have he' : ys = s := he
      subst he'
      rw [hr.str_inv]
      refine ⟨⟨_, hU, fun k e => by cases e⟩, by simp [Builtin.lenOf, pure, Sem.run, ByteArray.size], _, rep_bytes ys, fun n hn w' _ => ?_⟩
      simp only [Builtin.firstCells, pure, Sem.run, Ty.sz, Nat.mul_one]
      congr 1
      apply Array.ext'
      simp [ByteArray.data_extract, List.map_take]
    · cases h
  · rename_i e hU
    have hone : ∀ {a : AV}, isMany a = true → elemsOf H a = none := by
      intro a ha
      cases a <;> simp [isMany] at ha <;> first | rfl | skip
      rename_i q x
      cases q <;> first | rfl | (simp [isMany] at ha)
    unfold asList at h
    split at h
    · cases h
      rw [hr.nilS_inv]
      refine ⟨⟨_, hU, fun k e => by cases e⟩, by simp [Builtin.lenOf, pure, Sem.run], [], by rw [rep_ar_iff]; exact ⟨rfl, by simp, fun i hi => by simp at hi⟩, fun n hn w' _ => by simp [Builtin.firstCells, pure, Sem.run]⟩
    · split at h
      · rename_i t' zs hE
        obtain ⟨e, he⟩ := castL_some h
        subst e
        have he' : ys = zs := he
        subst he'
        have hrc : RelC F w β b [v] := by
          cases hr with
          | one _ _ _ h => exact h
          | many _ _ hm _ => rw [hone hm] at hE; cases hE
          | tup => cases hE
          | any => cases hE
        obtain ⟨A, c, rfl, hc, hx⟩ := elems_at g hE hrc
        refine ⟨⟨_, hU, fun k e => by cases e⟩, by simp [Builtin.lenOf, pure, Sem.run], ?_⟩
        rcases hx with hx | ⟨bb, off, rfl, l, hl, hle, hrep⟩
        · have hnil : ys = [] := List.eq_nil_of_length_eq_zero hx
          subst hnil
          refine ⟨[], by rw [rep_ar_iff]; exact ⟨rfl, by simp, fun i hi => by simp at hi⟩, fun n hn w' _ => ?_⟩
          have : n = 0 := by simpa using hn
          subst this
          cases A <;> simp [Builtin.firstCells, loadCells, loadCellsFrom, pure, Sem.run]
        · refine ⟨_, hrep, fun n hn w' hw' => ?_⟩
          have hm : n * t'.sz ≤ ys.length * t'.sz := Nat.mul_le_mul_right _ hn
          simp only [Builtin.firstCells]
          refine load_run ⟨l, ?_, by omega, ?_⟩
          · unfold cellsAt at hl ⊢; rw [hw']; exact hl
          · rw [List.take_take, Nat.min_eq_left hm]
      · cases h
  · cases h

end
end Go.LM
