/- LM: operations in a larger heap. -/
import Derived.Test.YtipoadjhenjpiaaLmK1
set_option linter.unusedVariables false
set_option linter.unusedSimpArgs false
namespace Go.LM

def Sub (H H2 : Heap) : Prop := ∀ id b, H id = some b → H2 id = some b

section
variable {H H2 : Heap}

theorem arrAt_mono (s : Sub H H2) {id off : Nat} {r} (h : arrAt H id off = some r) : arrAt H2 id off = some r := by
  unfold arrAt at h ⊢
  cases hb : H id with
  | none => rw [hb] at h; cases h
  | some b => rw [hb] at h; rw [s id b hb]; exact h

theorem arrLeaf_mono (s : Sub H H2) {id off : Nat} {r} (h : arrLeaf H id off = some r) : arrLeaf H2 id off = some r := by
  unfold arrLeaf at h ⊢
  cases hb : H id with
  | none => rw [hb] at h; cases h
  | some b => rw [hb] at h; rw [s id b hb]; exact h

theorem isRow_mono (s : Sub H H2) {a : AV} (h : isRow H a = true) : isRow H2 a = true := by
  unfold isRow at h ⊢
  split at h
  · rename_i id
    cases hb : H id with
    | none => rw [hb] at h; cases h
    | some b => rw [hb] at h; rw [s id b hb]; exact h
  · rename_i id _ _ _
    cases hb : H id with
    | none => rw [hb] at h; cases h
    | some b => rw [hb] at h; rw [s id b hb]; exact h
  · rfl

theorem elemsOf_mono (s : Sub H H2) {a : AV} {r} (h : elemsOf H a = some r) : elemsOf H2 a = some r := by
  unfold elemsOf at h ⊢
  split at h
  · exact h
  · exact arrAt_mono s h
  · rename_i id off lo hi
    cases ha : arrAt H id off with
    | none => rw [ha] at h; cases h
    | some p => rw [ha] at h; rw [arrAt_mono s ha]; exact h
  · cases h

theorem asList_mono (s : Sub H H2) {t : Ty} {a : AV} {r} (h : asList H t a = some r) : asList H2 t a = some r := by
  cases a <;> simp only [asList] at h ⊢ <;> first
    | exact h
    | (cases he : elemsOf H _ with
       | none => rw [he] at h; cases h
       | some p => rw [he] at h; rw [elemsOf_mono s he]; exact h)

theorem packU_mono (s : Sub H H2) (rows : Bool) : ∀ (u : Ty) (l : List AV) (r), packU H rows u l = some r → packU H2 rows u l = some r
  | .un, l, r, h => by simpa only [packU] using h
  | .int k, l, r, h => by simpa only [packU] using h
  | .bool, l, r, h => by simpa only [packU] using h
  | .str, l, r, h => by simpa only [packU] using h
  | .ar n e, l, r, h => by simpa only [packU] using h
  | .pr a b, l, r, h => by
    have comp : ∀ r, ((packU H rows a l).bind fun (x, l1) => (packU H rows b l1).bind fun (y, l2) => some ((x, y), l2)) = some r →
        ((packU H2 rows a l).bind fun (x, l1) => (packU H2 rows b l1).bind fun (y, l2) => some ((x, y), l2)) = some r := by
      intro r h
      cases h1 : packU H rows a l with
      | none => rw [h1] at h; cases h
      | some p =>
        rw [h1] at h
        simp only [Option.bind_some] at h
        cases h2 : packU H rows b p.2 with
        | none => rw [h2] at h; cases h
        | some q =>
          rw [h2] at h
          rw [packU_mono s rows a l p h1]
          simp only [Option.bind_some]
          rw [packU_mono s rows b p.2 q h2]
          exact h
    cases l with
    | nil => simp only [packU] at h ⊢; exact comp r h
    | cons c rest =>
      cases c with
      | dat t x =>
        simp only [packU] at h ⊢
        split at h
        · rename_i e; rw [if_pos e]; exact h
        · rename_i e; rw [if_neg e]; exact comp r h
      | _ => simp only [packU] at h ⊢; exact comp r h
  | .sl e, l, r, h => by
    have rowc : ∀ (a : AV) (rest : List AV), (if rows && isRow H a then (asList H e a).map fun y => (y, rest) else none) = some r → (if rows && isRow H2 a then (asList H2 e a).map fun y => (y, rest) else none) = some r := by
      intro a rest h
      split at h
      · rename_i hc
        simp only [Bool.and_eq_true] at hc
        rw [if_pos (by simp [hc.1, isRow_mono s hc.2])]
        cases ha : asList H e a with
        | none => rw [ha] at h; cases h
        | some y => rw [ha] at h; rw [asList_mono s ha]; exact h
      · cases h
    cases l with
    | nil => simp only [packU] at h; cases h
    | cons c rest =>
      cases c <;> simp only [packU] at h ⊢ <;> first | exact h | exact rowc _ _ h

theorem pack_mono (s : Sub H H2) {rows : Bool} {u : Ty} {a : AV} {x} (h : pack H rows u a = some x) : pack H2 rows u a = some x := by
  unfold pack at h ⊢
  split at h
  · rename_i hv
    rw [if_pos hv]
    cases hp : packU H rows u a.leaves with
    | none => rw [hp] at h; cases h
    | some r => rw [hp] at h; rw [packU_mono s rows u a.leaves r hp]; exact h
  · cases h

theorem setElems_mono (s : Sub H H2) {t : Ty} : ∀ {l : List (Nat × AV)} {xs : List t.D} {r}, setElems H t l xs = some r → setElems H2 t l xs = some r
  | [], xs, r, h => by simpa only [setElems] using h
  | (i, v) :: l, xs, r, h => by
    simp only [setElems] at h ⊢
    cases hp : pack H true t v with
    | none => rw [hp] at h; cases h
    | some x => rw [hp] at h; rw [pack_mono s hp]; exact setElems_mono s h

theorem exLoad_mono (s : Sub H H2) {P : Program} {T : TypeId} {a r : AV} (h : exLoad P T H a = some r) : exLoad P T H2 a = some r := by
  unfold exLoad at h ⊢
  split at h
  · exact h
  · rename_i id p
    (try simp only at h ⊢)
    split at h
    · rename_i hp
      cases hb : H id with
      | none => rw [hb] at h; cases h
      | some b => rw [hb] at h; (try simp only [hp]); rw [s id b hb]; exact h
    · rename_i i o rest hp
      (try simp only [hp])
      cases ha : arrAt H id p.off with
      | none => rw [ha] at h; cases h
      | some q => rw [ha] at h; rw [arrAt_mono s ha]; exact h
  · cases h

theorem exIndexAddr_mono (s : Sub H H2) {P : Program} {T : TypeId} {a i r : AV} (h : exIndexAddr P T H a i = some r) : exIndexAddr P T H2 a i = some r := by
  unfold exIndexAddr at h ⊢
  split at h
  · rename_i k n
    (try simp only at h ⊢)
    split at h
    · rename_i len e hT
      (try simp only [hT])
      split at h
      · rename_i id p
        (try simp only at h ⊢)
        cases hp : p.path with
        | nil =>
          simp only [hp] at h ⊢
          cases ha : arrLeaf H id p.off with
          | none => rw [ha] at h; cases h
          | some q => rw [ha] at h; rw [arrLeaf_mono s ha]; exact h
        | cons c rest =>
          obtain ⟨c1, o⟩ := c
          simp only [hp] at h ⊢
          cases ha : arrAt H id p.off with
          | none => rw [ha] at h; cases h
          | some z => rw [ha] at h; rw [arrAt_mono s ha]; exact h
      · exact h
      · cases h
    · rename_i e hT
      (try simp only [hT])
      split at h
      · exact h
      · rename_i id
        cases ha : arrAt H id 0 with
        | none => rw [ha] at h; cases h
        | some q => rw [ha] at h; simp only [arrAt_mono s ha]; exact h
      · rename_i id off lo hi
        cases ha : arrAt H id off with
        | none => rw [ha] at h; cases h
        | some q => rw [ha] at h; simp only [arrAt_mono s ha]; exact h
      · cases h
    · cases h
  · cases h

theorem exSlice_mono (s : Sub H H2) {P : Program} {T : TypeId} {a r : AV} {lo hi : Option AV} {mx : Bool} (h : exSlice P T H a lo hi mx = some r) : exSlice P T H2 a lo hi mx = some r := by
  unfold exSlice at h ⊢
  split at h
  · cases h
  · rename_i hm
    rw [if_neg hm]
    split at h
    · rename_i hT; (try simp only [hT]); exact h
    · rename_i hT; (try simp only [hT]); exact h
    · rename_i e id hT
      (try simp only [hT])
      cases ha : arrAt H id 0 with
      | none => rw [ha] at h; cases h
      | some q => rw [ha] at h; simp only [arrAt_mono s ha]; exact h
    · rename_i e id off b q hT
      (try simp only [hT])
      cases ha : arrAt H id off with
      | none => rw [ha] at h; cases h
      | some q => rw [ha] at h; simp only [arrAt_mono s ha]; exact h
    · rename_i n e id p hT
      (try simp only [hT])
      split at h
      · rename_i hp ha
        simp only [hp, arrLeaf_mono s ha]; exact h
      · cases h
    · cases h

theorem lenOf_mono (s : Sub H H2) {P : Program} {T : TypeId} {a : AV} {r} (h : lenOf P T H a = some r) : lenOf P T H2 a = some r := by
  unfold lenOf at h ⊢
  split at h
  · rename_i hT; (try simp only [hT]); exact h
  · rename_i hT; (try simp only [hT]); exact h
  · rename_i hT; (try simp only [hT]); exact h
  · rename_i hT; (try simp only [hT]); exact h
  · rename_i e id hT
    (try simp only [hT])
    cases ha : arrAt H id 0 with
    | none => rw [ha] at h; cases h
    | some q => rw [ha] at h; simp only [arrAt_mono s ha]; exact h
  · rename_i hT; (try simp only [hT]); exact h
  · rename_i A x hT
    (try simp only [hT]); exact h
  · cases h

theorem exBuild_mono (s : Sub H H2) {P : Program} {T : TypeId} {ps : List (Nat × AV)} {r : AV} (h : exBuild P H T ps = some r) : exBuild P H2 T ps = some r := by
  unfold exBuild at h ⊢
  split at h
  · rename_i hT; (try simp only [hT]); exact h
  · rename_i n e hT
    (try simp only [hT])
    cases ht : tyC P e with
    | none => rw [ht] at h; cases h
    | some t =>
      rw [ht] at h
      simp only [Option.bind_some] at h ⊢
      split at h
      · cases h
      · rename_i hr
        rw [if_neg hr]
        cases hz : zeroD P T (.ar n t) with
        | none => rw [hz] at h; cases h
        | some z =>
          rw [hz] at h
          simp only [Option.bind_some] at h ⊢
          split at h
          · rename_i hc
            rw [if_pos hc]
            cases hx : setElems H t ps z with
            | none => rw [hx] at h; cases h
            | some xs => rw [hx] at h; rw [setElems_mono s hx]; exact h
          · cases h
  · cases h

theorem srcOf_mono (s : Sub H H2) {P : Program} {T : TypeId} {t : Ty} {b : AV} {r} (h : srcOf P T H t b = some r) : srcOf P T H2 t b = some r := by
  unfold srcOf at h ⊢
  split at h
  · rename_i hT; (try simp only [hT]); exact h
  · rename_i hT; (try simp only [hT]); exact asList_mono s h
  · cases h

mutual
theorem exportA_mono (s : Sub H H2) : ∀ {a r : AV}, exportA H a = some r → exportA H2 a = some r
  | .full id, r, h => by
    simp only [exportA] at h ⊢
    split at h
    · rename_i hr
      rw [if_pos (isRow_mono s hr)]
      cases ha : arrAt H id 0 with
      | none => rw [ha] at h; cases h
      | some q => rw [ha] at h; rw [arrAt_mono s ha]; exact h
    · cases h
  | .sub id off lo hi, r, h => by
    simp only [exportA] at h ⊢
    split at h
    · rename_i hr
      rw [if_pos (isRow_mono s hr)]
      cases ha : elemsOf H (.sub id off lo hi) with
      | none => rw [ha] at h; cases h
      | some q => rw [ha] at h; rw [elemsOf_mono s ha]; exact h
    · cases h
  | .agg xs, r, h => by
    simp only [exportA] at h ⊢
    cases hx : exportL H xs with
    | none => rw [hx] at h; cases h
    | some q => rw [hx] at h; rw [exportL_mono s hx]; exact h
  | .nilS, r, h => by simpa only [exportA] using h
  | .dat .., r, h => by simpa only [exportA] using h
  | .nilP, r, h => by simpa only [exportA] using h
  | .nilF, r, h => by simpa only [exportA] using h
  | .ptr .., r, h => by simpa only [exportA] using h
  | .fptr .., r, h => by simpa only [exportA] using h
  | .fn .., r, h => by simpa only [exportA] using h
  | .tup .., r, h => by simpa only [exportA] using h
  | .any, r, h => by simpa only [exportA] using h
theorem exportL_mono (s : Sub H H2) : ∀ {l r : List AV}, exportL H l = some r → exportL H2 l = some r
  | [], r, h => by simpa only [exportL] using h
  | a :: l, r, h => by
    simp only [exportL] at h ⊢
    cases ha : exportA H a with
    | none => rw [ha] at h; cases h
    | some b =>
      rw [ha] at h
      simp only [Option.bind_some] at h
      cases hl : exportL H l with
      | none => rw [hl] at h; cases h
      | some q => rw [hl] at h; rw [exportA_mono s ha]; simp only [Option.bind_some]; rw [exportL_mono s hl]; exact h
end

theorem exportAll_mono (s : Sub H H2) : ∀ {m : List Bool} {l r : List AV}, exportAll H m l = some r → exportAll H2 m l = some r
  | _, [], r, h => by simpa only [exportAll] using h
  | true :: m, a :: l, r, h => by
    simp only [exportAll] at h ⊢
    cases hl : exportAll H m l with
    | none => rw [hl] at h; cases h
    | some q => rw [hl] at h; rw [exportAll_mono s hl]; exact h
  | false :: m, a :: l, r, h => by
    simp only [exportAll] at h ⊢
    cases ha : exportA H a with
    | none => rw [ha] at h; cases h
    | some b =>
      rw [ha] at h
      simp only [Option.bind_some] at h
      cases hl : exportAll H m l with
      | none => rw [hl] at h; cases h
      | some q => rw [hl] at h; rw [exportA_mono s ha]; simp only [Option.bind_some]; rw [exportAll_mono s hl]; exact h
  | [], a :: l, r, h => by
    simp only [exportAll] at h ⊢
    cases ha : exportA H a with
    | none => rw [ha] at h; cases h
    | some b =>
      rw [ha] at h
      simp only [Option.bind_some] at h
      cases hl : exportAll H [] l with
      | none => rw [hl] at h; cases h
      | some q => rw [hl] at h; rw [exportA_mono s ha]; simp only [Option.bind_some]; rw [exportAll_mono s hl]; exact h
end
end Go.LM
