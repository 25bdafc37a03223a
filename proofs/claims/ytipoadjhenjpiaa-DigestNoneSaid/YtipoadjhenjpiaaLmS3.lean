/- LM: data inside data. -/
import Derived.Test.YtipoadjhenjpiaaLmS2
set_option linter.unusedVariables false
set_option linter.unusedSimpArgs false
namespace Go.LM

theorem seg_seg {α} (l : List α) {a n b m : Nat} (h : b + m ≤ n) : ((((l.drop a).take n).drop b).take m) = (l.drop (a + b)).take m := by
  rw [List.drop_take, List.take_take, List.drop_drop, Nat.min_eq_left (by omega)]

def splice {α} (l : List α) (k : Nat) (us : List α) : List α := l.take k ++ (us ++ l.drop (k + us.length))

theorem splice_len {α} (l : List α) (k : Nat) (us : List α) (h : k + us.length ≤ l.length) : (splice l k us).length = l.length := by
  simp [splice]; omega
theorem splice_get {α} (l : List α) (k : Nat) (us : List α) (h : k + us.length ≤ l.length) (j : Nat) :
    (splice l k us)[j]? = if j < k then l[j]? else if j < k + us.length then us[j - k]? else l[j]? := by
  unfold splice
  by_cases h1 : j < k
  · rw [if_pos h1, List.getElem?_append_left (by simp; omega), List.getElem?_take_of_lt h1]
  · rw [if_neg h1, List.getElem?_append_right (by simp; omega)]
    simp only [List.length_take, Nat.min_eq_left (show k ≤ l.length by omega)]
    by_cases h2 : j < k + us.length
    · rw [if_pos h2, List.getElem?_append_left (by omega)]
    · rw [if_neg h2, List.getElem?_append_right (by omega), List.getElem?_drop]
      congr 1; omega
theorem seg_get {α} (l : List α) (a n j : Nat) : ((l.drop a).take n)[j]? = if j < n then l[a + j]? else none := by
  by_cases h : j < n
  · rw [if_pos h, List.getElem?_take_of_lt h, List.getElem?_drop]
  · rw [if_neg h, List.getElem?_take]; simp [h]
/-- A stretch apart from what was laid in. -/
theorem splice_apart {α} (l : List α) (k : Nat) (us : List α) (h : k + us.length ≤ l.length) (a n : Nat) (ha : a + n ≤ k ∨ k + us.length ≤ a) :
    ((splice l k us).drop a).take n = (l.drop a).take n := by
  apply List.ext_getElem?
  intro j
  rw [seg_get, seg_get]
  split
  · rw [splice_get _ _ _ h]
    rcases ha with ha | ha
    · rw [if_pos (by omega)]
    · rw [if_neg (by omega), if_neg (by omega)]
  · rfl
/-- A stretch that holds what was laid in. -/
theorem splice_in {α} (l : List α) (k : Nat) (us : List α) (a n : Nat) (ha : a ≤ k) (hb : k + us.length ≤ a + n) (hl : a + n ≤ l.length) :
    ((splice l k us).drop a).take n = splice ((l.drop a).take n) (k - a) us := by
  have hl' : ((l.drop a).take n).length = n := by simp; omega
  have h0 : k - a + us.length ≤ ((l.drop a).take n).length := by omega
  have h00 : k + us.length ≤ l.length := by omega
  apply List.ext_getElem?
  intro j
  rw [seg_get, splice_get _ _ _ h0, splice_get _ _ _ h00, seg_get]
  by_cases h : j < n
  · rw [if_pos h, if_pos h]
    by_cases h1 : a + j < k
    · rw [if_pos h1, if_pos (show j < k - a by omega)]
    · rw [if_neg h1, if_neg (show ¬ j < k - a by omega)]
      by_cases h2 : a + j < k + us.length
      · rw [if_pos h2, if_pos (show j < k - a + us.length by omega)]; congr 1; omega
      · rw [if_neg h2, if_neg (show ¬ j < k - a + us.length by omega)]
  · rw [if_neg h, if_neg h, if_neg (by omega), if_neg (by omega)]
theorem splice_splice {α} (l : List α) (us : List α) (a n b : Nat) (hb : b + us.length ≤ n) (hl : a + n ≤ l.length) :
    splice l a (splice ((l.drop a).take n) b us) = splice l (a + b) us := by
  have hs : ((l.drop a).take n).length = n := by simp; omega
  have h0 : b + us.length ≤ ((l.drop a).take n).length := by omega
  have h1 : (splice ((l.drop a).take n) b us).length = n := by rw [splice_len _ _ _ h0, hs]
  have h2 : a + (splice ((l.drop a).take n) b us).length ≤ l.length := by omega
  have h3 : (a + b) + us.length ≤ l.length := by omega
  apply List.ext_getElem?
  intro j
  rw [splice_get _ _ _ h2, splice_get _ _ _ h3, h1, splice_get _ _ _ h0, seg_get]
  by_cases c1 : j < a
  · rw [if_pos c1, if_pos (show j < a + b by omega)]
  · rw [if_neg c1]
    by_cases c2 : j < a + n
    · rw [if_pos c2, if_pos (show j - a < n by omega)]
      by_cases c3 : j - a < b
      · rw [if_pos c3, if_pos (show j < a + b by omega)]; congr 1; omega
      · rw [if_neg c3, if_neg (show ¬ j < a + b by omega)]
        by_cases c4 : j - a < b + us.length
        · rw [if_pos c4, if_pos (show j < a + b + us.length by omega)]; congr 1; omega
        · rw [if_neg c4, if_neg (show ¬ j < a + b + us.length by omega)]; congr 1; omega
    · rw [if_neg c2, if_neg (show ¬ j < a + b by omega), if_neg (show ¬ j < a + b + us.length by omega)]
theorem splice_self {α} (l : List α) (k : Nat) (us : List α) (h : k + us.length ≤ l.length) : ((splice l k us).drop k).take us.length = us := by
  apply List.ext_getElem?
  intro j
  rw [seg_get]
  by_cases h1 : j < us.length
  · rw [if_pos h1, splice_get _ _ _ h, if_neg (by omega), if_pos (by omega)]; congr 1; omega
  · rw [if_neg h1, List.getElem?_eq_none (by omega)]
theorem splice_all {α} (l us : List α) (h : us.length = l.length) : splice l 0 us = us := by
  unfold splice; simp [h]

section
variable {F : Nat → Prop} {w : World} {β : Nat → Option Conc}

theorem cast'_some {a b : Ty} {x : a.D} {y : b.D} (h : cast' x = some y) : ∃ e : a = b, y = e ▸ x := by
  unfold cast' at h
  split at h
  · rename_i e; cases h; exact ⟨e, rfl⟩
  · cases h
theorem castL_some {a b : Ty} {x : List a.D} {y : List b.D} (h : castL x = some y) : ∃ e : a = b, y = e ▸ x := by
  unfold castL at h
  split at h
  · rename_i e; cases h; exact ⟨e, rfl⟩
  · cases h
theorem cast'_rep {a b : Ty} {x : a.D} {y : b.D} {vs} (h : cast' x = some y) (hr : rep F w a x vs) : a = b ∧ rep F w b y vs := by
  obtain ⟨e, rfl⟩ := cast'_some h
  subst e
  exact ⟨rfl, hr⟩

theorem proj_leaf {t : Ty} {x : t.D} {off : Nat} {u : Ty} {y : u.D} (hp : ∀ a b, t ≠ .pr a b) (h : proj t x off u = some y) : off = 0 ∧ cast' x = some y := by
  have : proj t x off u = if off = 0 then cast' x else none := by cases t <;> first | rfl | exact absurd rfl (hp _ _)
  rw [this] at h
  split at h
  · exact ⟨by assumption, h⟩
  · cases h

theorem proj_rep : ∀ (t : Ty) (x : t.D) (vs : List Value) (off : Nat) (u : Ty) (y : u.D), rep F w t x vs → proj t x off u = some y →
    off + u.sz ≤ vs.length ∧ rep F w u y ((vs.drop off).take u.sz) := by
  intro t
  induction t with
  | pr a b iha ihb =>
    intro x vs off u y hr h
    simp only [proj] at h
    split at h
    · rename_i h0
      obtain ⟨rfl, rfl⟩ := h0
      obtain ⟨_, hr'⟩ := cast'_rep h hr
      have := rep_len _ _ _ hr
      exact ⟨by omega, by simpa [← this] using hr'⟩
    · simp only [rep] at hr
      obtain ⟨us, ws, rfl, h1, h2⟩ := hr
      have l1 := rep_len _ _ _ h1
      split at h
      · obtain ⟨h3, h4⟩ := iha _ _ _ _ _ h1 h
        refine ⟨by simp; omega, ?_⟩
        rwa [List.drop_append_of_le_length (by omega), List.take_append_of_le_length (by simp; omega)]
      · obtain ⟨h3, h4⟩ := ihb _ _ _ _ _ h2 h
        refine ⟨by simp; omega, ?_⟩
        rw [List.drop_append, List.drop_of_length_le (by omega), List.nil_append, l1]
        exact h4
  | _ =>
    intro x vs off u y hr h
    obtain ⟨rfl, h⟩ := proj_leaf (by intro a b; simp) h
    obtain ⟨e, hr'⟩ := cast'_rep h hr
    have := rep_len _ _ _ hr'
    exact ⟨by omega, by simpa [← this] using hr'⟩

theorem inj_leaf {t : Ty} {x : t.D} {off : Nat} {u : Ty} {v : u.D} {y : t.D} (hp : ∀ a b, t ≠ .pr a b) (h : inj t x off u v = some y) : off = 0 ∧ cast' v = some y := by
  have : inj t x off u v = if off = 0 then cast' v else none := by cases t <;> first | rfl | exact absurd rfl (hp _ _)
  rw [this] at h
  split at h
  · exact ⟨by assumption, h⟩
  · cases h

theorem inj_rep : ∀ (t : Ty) (x : t.D) (vs : List Value) (off : Nat) (u : Ty) (v : u.D) (us : List Value) (y : t.D), rep F w t x vs → rep F w u v us → inj t x off u v = some y →
    off + u.sz ≤ vs.length ∧ rep F w t y (splice vs off us) := by
  intro t
  induction t with
  | pr a b iha ihb =>
    intro x vs off u v us y hr hv h
    have lu := rep_len _ _ _ hv
    simp only [inj] at h
    split at h
    · rename_i h0
      obtain ⟨rfl, rfl⟩ := h0
      obtain ⟨_, hr'⟩ := cast'_rep h hv
      have := rep_len _ _ _ hr
      refine ⟨by omega, ?_⟩
      rwa [splice_all _ _ (by omega)]
    · simp only [rep] at hr
      obtain ⟨p, q, rfl, h1, h2⟩ := hr
      have l1 := rep_len _ _ _ h1
      split at h
      · cases hy : inj a x.1 off u v with
        | none => rw [hy] at h; cases h
        | some z =>
          rw [hy] at h; cases h
          obtain ⟨h3, h4⟩ := iha _ _ _ _ _ _ _ h1 hv hy
          refine ⟨by simp; omega, ?_⟩
          simp only [rep]
          refine ⟨_, q, ?_, h4, h2⟩
          unfold splice
          rw [List.take_append_of_le_length (by omega), List.drop_append_of_le_length (by omega)]
          simp
      · cases hy : inj b x.2 (off - a.sz) u v with
        | none => rw [hy] at h; cases h
        | some z =>
          rw [hy] at h; cases h
          obtain ⟨h3, h4⟩ := ihb _ _ _ _ _ _ _ h2 hv hy
          refine ⟨by simp; omega, ?_⟩
          simp only [rep]
          refine ⟨p, _, ?_, h1, h4⟩
          unfold splice
          rw [List.take_append, List.take_of_length_le (by omega), List.drop_append, List.drop_of_length_le (by omega), l1]
          simp
          congr 1; omega
  | _ =>
    intro x vs off u v us y hr hv h
    obtain ⟨rfl, h⟩ := inj_leaf (by intro a b; simp) h
    obtain ⟨e, hr'⟩ := cast'_rep h hv
    subst e
    have := rep_len _ _ _ hr
    have := rep_len _ _ _ hr'
    refine ⟨by omega, ?_⟩
    rwa [splice_all _ _ (by omega)]

theorem projA_rep : ∀ (t : Ty) (x : t.D) (vs : List Value) (off : Nat) (e : Ty) (n : Nat) (xs : List e.D), rep F w t x vs → projA t x off = some ⟨e, n, xs⟩ →
    tyArr t off = some (n, e) ∧ off + n * e.sz ≤ vs.length ∧ rep F w (.ar n e) xs ((vs.drop off).take (n * e.sz)) := by
  intro t
  induction t with
  | pr a b iha ihb =>
    intro x vs off e n xs hr h
    simp only [rep] at hr
    obtain ⟨us, ws, rfl, h1, h2⟩ := hr
    have l1 := rep_len _ _ _ h1
    simp only [projA, tyArr] at h ⊢
    split at h
    · rename_i hlt
      rw [if_pos hlt]
      obtain ⟨h0, h3, h4⟩ := iha _ _ _ _ _ _ h1 h
      refine ⟨h0, by simp; omega, ?_⟩
      rwa [List.drop_append_of_le_length (by omega), List.take_append_of_le_length (by simp; omega)]
    · rename_i hlt
      rw [if_neg hlt]
      obtain ⟨h0, h3, h4⟩ := ihb _ _ _ _ _ _ h2 h
      refine ⟨h0, by simp; omega, ?_⟩
      rw [List.drop_append, List.drop_of_length_le (by omega), List.nil_append, l1]
      exact h4
  | ar m e' _ =>
    intro x vs off e n xs hr h
    simp only [projA] at h
    split at h
    · rename_i h0
      subst h0
      cases h
      have := rep_len _ _ _ hr
      simp only [Ty.sz] at this
      refine ⟨rfl, by omega, ?_⟩
      rw [List.drop_zero, List.take_of_length_le (by omega)]
      exact hr
    · cases h
  | _ => intro x vs off e n xs hr h; cases h

theorem getD_get {α} (xs : List α) (i : Nat) (d : α) (h : i < xs.length) : xs.getD i d = xs.get ⟨i, h⟩ := by simp [List.getD, h]

theorem ar_elem {n : Nat} {e : Ty} {xs : List e.D} {vs : List Value} (h : rep F w (.ar n e) xs vs) {i : Nat} (hi : i < n) :
    (i + 1) * e.sz ≤ vs.length ∧ rep F w e (xs.getD i e.dflt) ((vs.drop (i * e.sz)).take e.sz) := by
  simp only [rep] at h
  obtain ⟨h1, h2, h3⟩ := h
  have hl : i < xs.length := by rw [h1]; exact hi
  refine ⟨by rw [h2]; exact Nat.mul_le_mul_right _ hi, ?_⟩
  have := h3 i hl
  rwa [getD_get _ _ _ hl]

theorem ar_set {n : Nat} {e : Ty} {xs : List e.D} {vs : List Value} (h : rep F w (.ar n e) xs vs) {i : Nat} (hi : i < n) {y : e.D} {us : List Value} (hy : rep F w e y us) :
    rep F w (.ar n e) (xs.set i y) (splice vs (i * e.sz) us) := by
  have hu := rep_len _ _ _ hy
  simp only [rep] at h ⊢
  obtain ⟨h1, h2, h3⟩ := h
  have hm : (i + 1) * e.sz ≤ n * e.sz := Nat.mul_le_mul_right _ hi
  have hle : i * e.sz + us.length ≤ vs.length := by rw [Nat.add_mul] at hm; omega
  refine ⟨by rw [List.length_set]; exact h1, by rw [splice_len _ _ _ hle]; exact h2, fun j hj => ?_⟩
  by_cases e' : j = i
  · subst e'
    have hs := splice_self vs (j * e.sz) us hle
    rw [hu] at hs
    rw [hs]
    simpa using hy
  · have hj' : j < xs.length := by simpa using hj
    have hg : List.get (xs.set i y) ⟨j, hj⟩ = List.get xs ⟨j, hj'⟩ := by
      simp [List.getElem_set_ne (Ne.symm e')]
    rw [hg, splice_apart _ _ _ hle]
    · exact h3 j hj'
    · rcases Nat.lt_or_ge j i with h | h
      · left
        have : (j + 1) * e.sz ≤ i * e.sz := Nat.mul_le_mul_right _ h
        rw [Nat.add_mul] at this; omega
      · right
        have : (i + 1) * e.sz ≤ j * e.sz := Nat.mul_le_mul_right _ (by omega)
        rw [Nat.add_mul] at this; omega

theorem getP_rep : ∀ (path : List (Int × Nat)) (t : Ty) (x : t.D) (vs : List Value) (off : Nat) (u : Ty) (y : u.D) (k : Nat), rep F w t x vs → getP path t x off u = some y →
    innerAt t off path = some k → k + u.sz ≤ vs.length ∧ rep F w u y ((vs.drop k).take u.sz)
  | [], t, x, vs, off, u, y, k, hr, h, hk => by
    simp only [getP, innerAt] at h hk
    cases hk
    exact proj_rep _ _ _ _ _ _ hr h
  | (i, o) :: rest, t, x, vs, off, u, y, k, hr, h, hk => by
    simp only [getP] at h
    split at h
    · rename_i e n xs hA
      obtain ⟨hT, hle, hA'⟩ := projA_rep _ _ _ _ _ _ _ hr hA
      simp only [innerAt, hT] at hk
      split at hk
      · rename_i hin
        cases hk' : innerAt e o rest with
        | none => rw [hk'] at hk; cases hk
        | some k' =>
          rw [hk'] at hk; cases hk
          obtain ⟨h1, h2⟩ := ar_elem hA' (i := i.toNat) (by omega)
          obtain ⟨h3, h4⟩ := getP_rep rest e _ _ o u y k' h2 h hk'
          have hl2 := rep_len _ _ _ h2
          have hmul : (i.toNat + 1) * e.sz ≤ n * e.sz := Nat.mul_le_mul_right _ (by omega)
          rw [Nat.add_mul] at hmul
          rw [seg_seg _ (show i.toNat * e.sz + e.sz ≤ n * e.sz by omega), seg_seg _ (show k' + u.sz ≤ e.sz by omega)] at h4
          show off + i.toNat * e.sz + k' + u.sz ≤ vs.length ∧ rep F w u y ((vs.drop (off + i.toNat * e.sz + k')).take u.sz)
          exact ⟨by omega, h4⟩
      · cases hk
    · cases h

theorem setP_rep : ∀ (path : List (Int × Nat)) (t : Ty) (x : t.D) (vs : List Value) (off : Nat) (u : Ty) (v : u.D) (us : List Value) (y : t.D) (k : Nat), rep F w t x vs → rep F w u v us →
    setP path t x off u v = some y → innerAt t off path = some k → k + u.sz ≤ vs.length ∧ rep F w t y (splice vs k us)
  | [], t, x, vs, off, u, v, us, y, k, hr, hv, h, hk => by
    simp only [setP, innerAt] at h hk
    cases hk
    exact inj_rep _ _ _ _ _ _ _ _ hr hv h
  | (i, o) :: rest, t, x, vs, off, u, v, us, y, k, hr, hv, h, hk => by
    have lu := rep_len _ _ _ hv
    simp only [setP] at h
    split at h
    · rename_i e n xs hA
      obtain ⟨hT, hle, hA'⟩ := projA_rep _ _ _ _ _ _ _ hr hA
      simp only [innerAt, hT] at hk
      split at hk
      · rename_i hin
        cases hk' : innerAt e o rest with
        | none => rw [hk'] at hk; cases hk
        | some k' =>
          rw [hk'] at hk; cases hk
          obtain ⟨h1, h2⟩ := ar_elem hA' (i := i.toNat) (by omega)
          cases hz : setP rest e (xs.getD i.toNat e.dflt) o u v with
          | none => rw [hz] at h; cases h
          | some z =>
            rw [hz] at h
            simp only [Option.bind_some] at h
            obtain ⟨h3, h4⟩ := setP_rep rest e _ _ o u v us z k' h2 hv hz hk'
            have h5 := ar_set hA' (i := i.toNat) (by omega) h4
            obtain ⟨h6, h7⟩ := inj_rep _ _ _ _ _ _ _ _ hr h5 h
            have hl2 := rep_len _ _ _ h2
            have hmul : (i.toNat + 1) * e.sz ≤ n * e.sz := Nat.mul_le_mul_right _ (by omega)
            rw [Nat.add_mul] at hmul
            show off + i.toNat * e.sz + k' + u.sz ≤ vs.length ∧ rep F w t y (splice vs (off + i.toNat * e.sz + k') us)
            refine ⟨by omega, ?_⟩
            have e1 := splice_splice ((vs.drop off).take (n * e.sz)) us (i.toNat * e.sz) e.sz k' (by omega) (by simp; omega)
            rw [e1] at h7
            have e2 := splice_splice vs us off (n * e.sz) (i.toNat * e.sz + k') (by omega) (by omega)
            rw [← Nat.add_assoc] at e2
            rw [e2] at h7
            exact h7
      · cases hk
    · cases h
end
end Go.LM
