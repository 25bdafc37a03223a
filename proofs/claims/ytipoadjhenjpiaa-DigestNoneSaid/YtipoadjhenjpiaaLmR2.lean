/- LM: laws on blocks. -/
import Derived.Test.YtipoadjhenjpiaaLmR1
set_option linter.unusedVariables false
namespace Go.LM

theorem cellsAt_of_heap {w w' : World} {b : Nat} (h : w'.heap[b]? = w.heap[b]?) : cellsAt w' b = cellsAt w b := by
  unfold cellsAt; rw [h]
theorem frozen_of_heap {w w' : World} {b : Nat} (h : w'.heap[b]? = w.heap[b]?) (o : Nat) : w'.frozen? ⟨b, o, none⟩ = w.frozen? ⟨b, o, none⟩ := by
  unfold World.frozen?; simp only [h]

def upd (β : Nat → Option Conc) (id : Nat) (c : Conc) : Nat → Option Conc := fun j => if j = id then some c else β j
theorem upd_self {β id c} : upd β id c id = some c := by simp [upd]
theorem upd_ne {β : Nat → Option Conc} {id j c} (h : j ≠ id) : upd β id c j = β j := by simp [upd, h]
theorem Heap.set_self {h : Heap} {id b} : Heap.set h id b id = some b := by simp [Heap.set]
theorem Heap.set_ne {h : Heap} {id b j} (e : j ≠ id) : Heap.set h id b j = h j := by simp [Heap.set, e]

theorem BRel.mono {F : Nat → Prop} {w β F' w' β'} (e : Ext F w β F' w' β') {c : Conc} {blk : Blk} (h : BRel F w β c blk)
    (hb : ∀ b, c.b = some b → w'.heap[b]? = w.heap[b]?) : BRel F' w' β' c blk := by
  cases blk with
  | dead => trivial
  | row t xs fr =>
    simp only [BRel] at h ⊢
    obtain ⟨h1, h2, h3, h4⟩ := h
    refine ⟨h1, h2, h3, fun b hcb => ?_⟩
    obtain ⟨⟨l, hl, hsz, hr⟩, h5, h6⟩ := h4 b hcb
    refine ⟨⟨l, (cellsAt_of_heap (hb b hcb)).trans hl, hsz, fun i hi => rep_mono e.f _ _ _ (hr i hi)⟩, fun hf => (e.f b (h5 hf)).1, fun hf o ho => (frozen_of_heap (hb b hcb) o).trans (h6 hf o ho)⟩
  | vars cs =>
    simp only [BRel] at h ⊢
    obtain ⟨h1, b, hcb, ⟨l, hl, hr⟩, h6⟩ := h
    exact ⟨h1, b, hcb, ⟨l, (cellsAt_of_heap (hb b hcb)).trans hl, hr.mono e⟩, fun o => (frozen_of_heap (hb b hcb) o).trans (h6 o)⟩

/-- Where nothing that is told has changed. -/
theorem Good.same {X F w w' β H} (g : Good X F w β H) (e : w'.heap = w.heap) (eo : w'.os = w.os ∧ w'.output = w.output) : Good X F w' β H := by
  have hb : ∀ b : Nat, w'.heap[b]? = w.heap[b]? := fun b => by rw [e]
  have ex : Ext F w β F w' β := ⟨fun b h => ⟨h, cellsAt_of_heap (hb b)⟩, fun _ _ h => h⟩
  refine ⟨fun id c h => ?_, fun id c b h1 h2 h3 => ?_, g.uniq, fun b h => ?_, g.fext, g.fmono, fun b h => (hb b).trans (g.frame b h), g.gsz, by rw [e]; exact g.size, ⟨eo.1.trans g.tame.1, eo.2.trans g.tame.2⟩⟩
  · obtain ⟨blk, h1, h2⟩ := g.hr id c h
    exact ⟨blk, h1, h2.mono ex fun b _ => hb b⟩
  · rw [e]; exact g.own id c b h1 h2 h3
  · rw [e]; exact g.fsz b h

theorem Ext.same {F w w' β} (e : w'.heap = w.heap) : Ext F w β F w' β :=
  ⟨fun b h => ⟨h, cellsAt_of_heap (by rw [e])⟩, fun _ _ h => h⟩

theorem RelV.same {F w w' β a v} (e : w'.heap = w.heap) (h : RelV F w β a v) : RelV F w' β a v := h.mono (Ext.same e)

/-- The block that a told id has lies in the heap. -/
theorem Good.inHeap {X F w β H} (g : Good X F w β H) {id c b} (h : β id = some c) (hd : H id ≠ some .dead) (hb : c.b = some b) : b < w.heap.size := by
  obtain ⟨blk, h1, h2⟩ := g.hr id c h
  cases blk with
  | dead => exact absurd h1 hd
  | row t xs fr =>
    obtain ⟨_, _, _, h4⟩ := h2
    obtain ⟨⟨l, hl, _⟩, _⟩ := h4 b hb
    unfold cellsAt at hl
    rcases Nat.lt_or_ge b w.heap.size with h | h
    · exact h
    · rw [Array.getElem?_eq_none h] at hl; cases hl
  | vars cs =>
    obtain ⟨_, b', hb', ⟨l, hl, _⟩, _⟩ := h2
    rw [hb] at hb'; cases hb'
    unfold cellsAt at hl
    rcases Nat.lt_or_ge b w.heap.size with h | h
    · exact h
    · rw [Array.getElem?_eq_none h] at hl; cases hl

theorem heap_push_lt {w : World} {o : Obj} {b : Nat} (h : b < w.heap.size) : (w.heap.push o)[b]? = w.heap[b]? := by
  rw [Array.getElem?_push]; simp; omega
theorem heap_push_eq {w : World} {o : Obj} : (w.heap.push o)[w.heap.size]? = some o := by simp

/-- A new block. -/
theorem Good.new {X F w β H} (g : Good X F w β H) {id : Nat} (hid : β id = none) {o : Obj} {c : Conc} {blk : Blk} (hc : c.b = some w.heap.size)
    (hown : ownB (some blk) = true)
    (hB : BRel F { w with heap := w.heap.push o } (upd β id c) c blk) :
    Good X F { w with heap := w.heap.push o } (upd β id c) (H.set id blk) ∧ Ext F w β F { w with heap := w.heap.push o } (upd β id c) := by
  have hlt : ∀ b, b < w.heap.size → (World.heap { w with heap := w.heap.push o })[b]? = w.heap[b]? := fun b h => heap_push_lt h
  have ex : Ext F w β F { w with heap := w.heap.push o } (upd β id c) :=
    ⟨fun b h => ⟨h, cellsAt_of_heap (hlt b (g.fsz b h))⟩, fun j c' h => by rw [upd_ne (fun e => by rw [e, hid] at h; cases h)]; exact h⟩
  have hne : ∀ j c', β j = some c' → j ≠ id := fun j c' h e => by rw [e, hid] at h; cases h
  refine ⟨⟨fun j c' h => ?_, fun j c' b h1 h2 h3 => ?_, fun j j' c1 c2 b h1 h2 h3 h4 h5 h6 => ?_, fun b h => ?_, g.fext, g.fmono, fun b h => ?_, g.gsz, ?_, g.tame⟩, ex⟩
  · by_cases e : j = id
    · subst e; rw [upd_self] at h; cases h
      exact ⟨blk, Heap.set_self, hB⟩
    · rw [upd_ne e] at h
      obtain ⟨blk', h1, h2⟩ := g.hr j c' h
      refine ⟨blk', by rw [Heap.set_ne e]; exact h1, ?_⟩
      by_cases hd : blk' = .dead
      · subst hd; trivial
      · exact h2.mono ex fun b hb => hlt b (g.inHeap h (by rw [h1]; intro e; cases e; exact hd rfl) hb)
  · by_cases e : j = id
    · subst e; rw [upd_self] at h1; cases h1
      rw [hc] at h3; cases h3
      refine ⟨fun h => ?_, fun h => ?_, by simp⟩
      · have := g.fsz _ h; omega
      · have := g.gsz _ h; have := g.size; omega
    · rw [upd_ne e] at h1
      rw [Heap.set_ne e] at h2
      obtain ⟨a1, a2, a3⟩ := g.own j c' b h1 h2 h3
      exact ⟨a1, a2, by simp; omega⟩
  · by_cases e : j = id
    · by_cases e' : j' = id
      · rw [e, e']
      · subst e; rw [upd_self] at h1; cases h1
        rw [hc] at h5; cases h5
        rw [upd_ne e'] at h2; rw [Heap.set_ne e'] at h4
        have := (g.own j' c2 _ h2 h4 h6).2.2; omega
    · rw [upd_ne e] at h1; rw [Heap.set_ne e] at h3
      by_cases e' : j' = id
      · subst e'; rw [upd_self] at h2; cases h2
        rw [hc] at h6; cases h6
        have := (g.own j c1 _ h1 h3 h5).2.2; omega
      · rw [upd_ne e'] at h2; rw [Heap.set_ne e'] at h4
        exact g.uniq j j' c1 c2 b h1 h2 h3 h4 h5 h6
  · have := g.fsz b h; simp; omega
  · have := g.gsz b h; have := g.size
    exact (hlt b (by omega)).trans (g.frame b h)
  · have := g.size; simp; omega

/-- A block of one's own is written. -/
theorem Good.write {X F w β H} (g : Good X F w β H) {id : Nat} {c : Conc} {b : Nat} (hid : β id = some c) (hown : ownB (H id) = true) (hb : c.b = some b)
    {w' : World} (hw : ∀ b', b' ≠ b → w'.heap[b']? = w.heap[b']?) (hsz : w'.heap.size = w.heap.size) (eo : w'.os = w.os ∧ w'.output = w.output) {blk : Blk}
    (hB : BRel F w' β c blk) (hown' : blk ≠ .dead → ownB (some blk) = true) :
    Good X F w' β (H.set id blk) ∧ Ext F w β F w' β := by
  obtain ⟨o1, o2, o3⟩ := g.own id c b hid hown hb
  have ex : Ext F w β F w' β := ⟨fun b' h => ⟨h, cellsAt_of_heap (hw b' fun e => o1 (e ▸ h))⟩, fun _ _ h => h⟩
  have ow : ∀ j, ownB ((H.set id blk) j) = true → ownB (H j) = true := fun j h => by
    by_cases e : j = id
    · rw [e]; exact hown
    · rw [Heap.set_ne e] at h; exact h
  refine ⟨⟨fun j c' h => ?_, fun j c' b' h1 h2 h3 => ?_, fun j j' c1 c2 b' h1 h2 h3 h4 h5 h6 => g.uniq j j' c1 c2 b' h1 h2 (ow _ h3) (ow _ h4) h5 h6, fun b' h => hsz ▸ g.fsz b' h, g.fext, g.fmono, fun b' h => ?_, g.gsz, hsz ▸ g.size, ⟨eo.1.trans g.tame.1, eo.2.trans g.tame.2⟩⟩, ex⟩
  · by_cases e : j = id
    · subst e
      rw [hid] at h; cases h
      exact ⟨blk, Heap.set_self, hB⟩
    · obtain ⟨blk', h1, h2⟩ := g.hr j c' h
      refine ⟨blk', by rw [Heap.set_ne e]; exact h1, ?_⟩
      cases blk' with
      | dead => trivial
      | row t xs fr =>
        refine h2.mono ex fun b' hb' => hw b' fun eb => ?_
        subst eb
        cases fr with
        | true => exact o1 ((h2.2.2.2 b' hb').2.1 rfl)
        | false => exact e (g.uniq j id c' c b' h hid (by rw [h1]; rfl) hown hb' hb)
      | vars cs =>
        refine h2.mono ex fun b' hb' => hw b' fun eb => ?_
        subst eb
        exact e (g.uniq j id c' c b' h hid (by rw [h1]; rfl) hown hb' hb)
  · obtain ⟨a1, a2, a3⟩ := g.own j c' b' h1 (ow _ h2) h3
    exact ⟨a1, a2, hsz ▸ a3⟩
  · exact (hw b' fun e => o2 (e ▸ h)).trans (g.frame b' h)

/-- A row is given away: it is written no more. -/
theorem Good.freeze {X F w β H} (g : Good X F w β H) {id : Nat} {t xs} {fr : Bool} (h : H id = some (.row t xs fr)) :
    ∃ F', Good X F' w β (H.set id (.row t xs true)) ∧ Ext F w β F' w β ∧ (∀ c b, β id = some c → c.b = some b → F' b) := by
  by_cases hb : ∃ c b, β id = some c ∧ c.b = some b ∧ fr = false
  · obtain ⟨c, b, hc, hcb, rfl⟩ := hb
    have ho : ownB (H id) = true := by rw [h]; rfl
    obtain ⟨o1, o2, o3⟩ := g.own id c b hc ho hcb
    have ex : Ext F w β (fun x => F x ∨ x = b) w β := ⟨fun b' h => ⟨.inl h, rfl⟩, fun _ _ h => h⟩
    have ow : ∀ j, ownB ((H.set id (.row t xs true)) j) = true → j ≠ id ∧ ownB (H j) = true := fun j h => by
      by_cases e : j = id
      · subst e; rw [Heap.set_self] at h; cases h
      · rw [Heap.set_ne e] at h; exact ⟨e, h⟩
    refine ⟨fun x => F x ∨ x = b, ⟨fun j c' h' => ?_, fun j c' b' h1 h2 h3 => ?_, fun j j' c1 c2 b' h1 h2 h3 h4 h5 h6 => g.uniq j j' c1 c2 b' h1 h2 (ow _ h3).2 (ow _ h4).2 h5 h6, ?_, ?_, fun b' h => .inl (g.fmono b' h), g.frame, g.gsz, g.size, g.tame⟩, ex, ?_⟩
    · obtain ⟨blk', h1, h2⟩ := g.hr j c' h'
      by_cases e : j = id
      · subst e
        rw [hc] at h'; cases h'
        rw [h] at h1; cases h1
        refine ⟨_, Heap.set_self, ?_⟩
        have := h2.mono ex (fun _ _ => rfl)
        obtain ⟨h1, h2, h3, h4⟩ := this
        refine ⟨h1, h2, h3, fun b' hb' => ?_⟩
        obtain ⟨h5, h6, h7⟩ := h4 b' hb'
        rw [hcb] at hb'; cases hb'
        exact ⟨h5, fun _ => .inr rfl, fun e => by cases e⟩
      · exact ⟨blk', by rw [Heap.set_ne e]; exact h1, h2.mono ex fun _ _ => rfl⟩
    · obtain ⟨e, h2'⟩ := ow _ h2
      obtain ⟨a1, a2, a3⟩ := g.own j c' b' h1 h2' h3
      refine ⟨fun hh => hh.elim a1 fun eb => ?_, a2, a3⟩
      subst eb
      exact e (g.uniq j id c' c b' h1 hc h2' ho h3 hcb)
    · rintro b' (h | rfl)
      · exact g.fsz b' h
      · exact o3
    · rintro b' (h | rfl)
      · exact g.fext b' h
      · exact .inr o2
    · intro c' b' h1 h2
      rw [hc] at h1; cases h1
      rw [hcb] at h2; cases h2
      exact .inr rfl
  · have ow : ∀ j, ownB ((H.set id (.row t xs true)) j) = true → ownB (H j) = true := fun j h => by
      by_cases e : j = id
      · subst e; rw [Heap.set_self] at h; cases h
      · rw [Heap.set_ne e] at h; exact h
    refine ⟨F, ⟨fun j c' h' => ?_, fun j c' b' h1 h2 h3 => g.own j c' b' h1 (ow _ h2) h3, fun j j' c1 c2 b' h1 h2 h3 h4 h5 h6 => g.uniq j j' c1 c2 b' h1 h2 (ow _ h3) (ow _ h4) h5 h6, g.fsz, g.fext, g.fmono, g.frame, g.gsz, g.size, g.tame⟩, .refl, ?_⟩
    · obtain ⟨blk', h1, h2⟩ := g.hr j c' h'
      by_cases e : j = id
      · subst e
        rw [h] at h1; cases h1
        refine ⟨_, Heap.set_self, ?_⟩
        obtain ⟨h1, h2, h3, h4⟩ := h2
        refine ⟨h1, h2, h3, fun b' hb' => ?_⟩
        obtain ⟨h5, h6, h7⟩ := h4 b' hb'
        cases fr with
        | true => exact ⟨h5, h6, fun e => by cases e⟩
        | false => exact absurd ⟨c', b', h', hb', rfl⟩ hb
      · exact ⟨blk', by rw [Heap.set_ne e]; exact h1, h2⟩
    · intro c b h1 h2
      obtain ⟨blk', h3, h4⟩ := g.hr id c h1
      rw [h] at h3; cases h3
      cases fr with
      | true => exact (h4.2.2.2 b h2).2.1 rfl
      | false => exact absurd ⟨c, b, h1, h2, rfl⟩ hb

end Go.LM
