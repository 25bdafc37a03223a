/- Apa: ApB ApC ApD ApE ApF ApH. -/
import Derived.Test.YtfblaicifdgfiaaAfQa
import Derived.Test.YtfblaicifdgfiaaAga
section
set_option linter.unusedVariables false
set_option linter.unusedSimpArgs false
namespace Go.LM
theorem loopO_all {D R : Type} {f : D → Option (D ⊕ R)} (S : Nat → D) (P : Nat → Bool) (bad good : R) (N : Nat) : ∀ (j k : Nat), k + j = N → (∀ i, k ≤ i → i < N → f (S i) = some (bif P i then .inl (S (i + 1)) else .inr bad)) → f (S N) = some (.inr good) →
    loopO f (S k) = some (bif (List.range j).all (fun i => P (k + i)) then good else bad)
  | 0, k, e, h1, h2 => by
    obtain rfl : k = N := by omega
    rw [loopO_done h2]; rfl
  | j + 1, k, e, h1, h2 => by
    have ih := loopO_all S P bad good N j (k + 1) (by omega) (fun i h h' => h1 i (by omega) h') h2
    have h := h1 k (Nat.le_refl _) (by omega)
    have e2 : (List.range (j + 1)).all (fun i => P (k + i)) = (P k && (List.range j).all (fun i => P (k + 1 + i))) := by
      rw [List.range_succ_eq_map, List.all_cons, List.all_map]
      simp only [Nat.add_zero, Function.comp_def, Nat.succ_eq_add_one, Nat.add_assoc, Nat.add_comm 1]
    rw [e2]
    cases hp : P k with
    | true => rw [hp, cond_true] at h; rw [loopO_next h, ih]; rfl
    | false => rw [hp, cond_false] at h; rw [loopO_done h]; rfl
theorem all_getD {α : Type} (l : List α) (z : α) (Q : α → Bool) : (List.range l.length).all (fun i => Q (l.getD i z)) = l.all Q := by
  rw [Bool.eq_iff_iff, List.all_eq_true, List.all_eq_true]
  constructor
  · intro h x hx
    obtain ⟨i, hi, rfl⟩ := List.mem_iff_getElem.1 hx
    have := h i (List.mem_range.2 hi)
    rwa [getD_lt _ _ hi] at this
  · intro h i hi
    have hi := List.mem_range.1 hi
    rw [getD_lt _ _ hi]
    exact h _ (List.getElem_mem hi)
theorem loopO_allL {D R α : Type} {f : D → Option (D ⊕ R)} (S : Nat → D) (l : List α) (z : α) (Q : α → Bool) (bad good : R) (h1 : ∀ i, i < l.length → f (S i) = some (bif Q (l.getD i z) then .inl (S (i + 1)) else .inr bad)) (h2 : f (S l.length) = some (.inr good)) :
    loopO f (S 0) = some (bif l.all Q then good else bad) := by
  rw [loopO_all S (fun i => Q (l.getD i z)) bad good l.length l.length 0 (by omega) (fun i _ h => h1 i h) h2]
  simp only [Nat.zero_add]
  rw [all_getD l z Q]
def half (w : Int) : Int := ((2 ^ (w - 1).toNat : Nat) : Int)
def inW (w n : Int) : Bool := decide (-half w ≤ n ∧ n < half w)
theorem half_bd {w : Int} (h : 4 ≤ w ∧ w ≤ 32) : 8 ≤ half w ∧ half w ≤ 2147483648 := by
  unfold half
  have h1 : 2 ^ 3 ≤ 2 ^ (w - 1).toNat := Nat.pow_le_pow_right (by decide) (by omega)
  have h2 : 2 ^ (w - 1).toNat ≤ 2 ^ 31 := Nat.pow_le_pow_right (by decide) (by omega)
  omega
theorem p2_half {w : Int} (h : 4 ≤ w ∧ w ≤ 32) : p2 (w - 1) 64 = half w := by
  unfold p2 half; rw [Nat.min_eq_left (by omega)]
structure PB (pl : List (List Int)) : Prop where
  n1 : pl.length ≤ 1048576
  n2 : ∀ i, (pl.getD i []).length ≤ 1048576
  n3 : ∀ i j, -9223372036854775808 ≤ (pl.getD i []).getD j 0 ∧ (pl.getD i []).getD j 0 < 9223372036854775808
def lenV (pl : List (List Int)) : Int := ((pl.getD 0 []).length : Nat)
def okKind (r c w : Int) : Bool := decide (1 ≤ r ∧ r ≤ 655350 ∧ 1 ≤ c ∧ c ≤ 8 ∧ 4 ≤ w ∧ w ≤ 32)
def okPl (w : Int) (pl : List (List Int)) : Bool := pl.all (fun l => l.length == (pl.getD 0 []).length) && pl.all (fun l => l.all (inW w))
def pcmOk (r c w : Int) (pl : List (List Int)) : Bool := okKind r c w && (((pl.length : Nat) : Int) == c) && okPl w pl
def chk (r c w : Int) (pl : List (List Int)) : Int := bif pcmOk r c w pl then 0 else 50
end Go.LM
namespace Go.Proofs.Ytfblaicifdgfiaa.Dg
open Go.LM
theorem pLen_eq (r c w : Int) (pl : List (List Int)) (u : PUnit) : LQ.pcm_Len (r, c, w, pl, u) = some (lenV pl) := by
  unfold LQ.pcm_Len LQ.pcm_Len.t
  cases pl with
  | nil => rfl
  | cons a l => rw [Tr.run_br, show (Int.ofNat (r, c, w, a :: l, u).snd.snd.snd.fst.length == (0 : Int)) = false from by simp only [List.length_cons, Int.ofNat_eq_natCast, beq_eq_false_iff_ne]; omega, cond_false, Tr.run_need _ (by simp)]; rfl
theorem rLen_eq (r c w : Int) (pl : List (List Int)) (u : PUnit) : LQ.r5_Len (r, c, w, pl, u) = some (lenV pl) := pLen_eq r c w pl u
theorem kind_eq (r c w : Int) : LQ.pcm_kind r c w = some (okKind r c w) := by
  unfold LQ.pcm_kind LQ.pcm_kind.t okKind
  simp only [Tr.run_bind, Tr.run_br, Tr.run_ret]
  by_cases h1 : 1 ≤ r <;> by_cases h2 : r ≤ 655350 <;> by_cases h3 : 1 ≤ c <;> by_cases h4 : c ≤ 8 <;> by_cases h5 : 4 ≤ w <;> by_cases h6 : w ≤ 32 <;> simp [h1, h2, h3, h4, h5, h6]
theorem in_eq (n w : Int) (hw : 4 ≤ w ∧ w ≤ 32) (hn : -9223372036854775808 ≤ n ∧ n < 9223372036854775808) : LQ.pcm_in n w = some (inW w n) := by
  unfold LQ.pcm_in LQ.pcm_in.t
  have hb := half_bd hw
  rw [w64_id (by omega), Tr.run_need _ (by omega), Tr.run_ret, p2_half hw]
  congr 1
  unfold inW
  rw [Bool.eq_iff_iff, beq_iff_eq, decide_eq_true_eq]
  have key : ∀ k : Int, n / half w = k ↔ k * half w ≤ n ∧ n < (k + 1) * half w := fun k => by
    rw [← Int.le_ediv_iff_mul_le (by omega), ← Int.ediv_lt_iff_lt_mul (by omega)]; omega
  by_cases h : 0 ≤ n
  · rw [show n / 9223372036854775808 = 0 by omega, key]; omega
  · rw [show n / 9223372036854775808 = -1 by omega, key]; omega
theorem Sample_eq (n w : Int) (hw : 4 ≤ w ∧ w ≤ 32) : LQ.r5_Sample n w = some (inW w n) := by
  unfold LQ.r5_Sample LQ.r5_Sample.t inW
  have hb := half_bd hw
  rw [w64_id (x := w - 1) (by omega), u64_id (by omega), Tr.run_need _ (by omega), Tr.run_bind, Tr.run_br, p2_half hw, Int.one_mul, w64_id (x := half w) (by omega), w64_id (x := 0 - half w) (by omega)]
  by_cases h1 : -half w ≤ n
  · rw [decide_eq_true (p := n ≥ 0 - half w) (by omega), cond_true, Tr.run_ret]; simp [h1, Tr.run_ret]
  · rw [decide_eq_false (p := n ≥ 0 - half w) (by omega), cond_false, Tr.run_ret]; simp [h1, Tr.run_ret]
theorem each_l1 (l : List (List Int)) (i : Nat) (a b w : Int) (pl : List (List Int)) (hw : 4 ≤ w ∧ w ≤ 32) (hl : PB l) :
    loopO (fun (d : Int × Int × Int × Int × List (List Int)) ↦ (LQ.each.l1 l i d.fst d.snd.fst d.snd.snd.fst d.snd.snd.snd.fst d.snd.snd.snd.snd).run) ((0 : Int), a, b, w, pl)
      = some (bif (l.getD i []).all (inW w) then .inr (a, b, w, pl) else .inl (false, a, b, w, pl)) := by
  have hn := hl.n2 i
  refine loopO_allL (f := fun (d : Int × Int × Int × Int × List (List Int)) ↦ (LQ.each.l1 l i d.fst d.snd.fst d.snd.snd.fst d.snd.snd.snd.fst d.snd.snd.snd.snd).run) (fun k => ((k : Int), a, b, w, pl)) (l.getD i []) 0 (inW w) _ _ ?_ ?_
  · intro k hk
    simp only [LQ.each.l1, Int.toNat_natCast]
    have h := hl.n3 i k
    rw [Tr.run_br, decide_eq_true (by simp only [Int.ofNat_eq_natCast]; omega), cond_true, Tr.run_need _ (by simp only [Int.ofNat_eq_natCast]; omega), Tr.run_bind]
    simp only [LQ.chk1, LQ.chk1.t, Tr.run_bind, in_eq _ w hw h, Option.bind_some, Tr.run_ret, Tr.run_br]
    rw [w64_id (by omega)]
    cases inW w ((l.getD i []).getD k 0) <;> rfl
  · simp only [LQ.each.l1, Int.toNat_natCast]
    rw [Tr.run_br, decide_eq_false (by simp only [Int.ofNat_eq_natCast]; omega), cond_false, Tr.run_ret]
theorem each_eq (l : List (List Int)) (a b w : Int) (pl : List (List Int)) (hw : 4 ≤ w ∧ w ≤ 32) (hl : PB l) : LQ.each l a b w pl = some (l.all (fun x => x.all (inW w)), a, b, w, pl) := by
  unfold LQ.each LQ.each.t
  have hn := hl.n1
  rw [Tr.run_bind]
  have := loopO_allL (f := fun (d : Int × Int × Int × Int × List (List Int)) ↦ (LQ.each.l0 l d.fst d.snd.fst d.snd.snd.fst d.snd.snd.snd.fst d.snd.snd.snd.snd).run) (fun k => ((k : Int), a, b, w, pl)) l [] (fun x => x.all (inW w)) (.inl (false, a, b, w, pl)) (.inr (a, b, w, pl)) ?_ ?_
  · refine (congrArg (fun o => Option.bind o _) this).trans ?_
    rw [Option.bind_some]
    cases l.all (fun x => x.all (inW w)) <;> rfl
  · intro k hk
    simp only [LQ.each.l0]
    rw [Tr.run_br, decide_eq_true (by simp only [Int.ofNat_eq_natCast]; omega), cond_true, Tr.run_need _ (by simp only [Int.ofNat_eq_natCast]; omega), Tr.run_bind]
    refine (congrArg (fun o => Option.bind o _) (each_l1 l k a b w pl hw hl)).trans ?_
    rw [Option.bind_some, w64_id (by omega)]
    cases (l.getD k []).all (inW w) <;> rfl
  · simp only [LQ.each.l0]
    rw [Tr.run_br, decide_eq_false (by simp only [Int.ofNat_eq_natCast]; omega), cond_false, Tr.run_ret]
end Go.Proofs.Ytfblaicifdgfiaa.Dg
end

section
set_option linter.unusedVariables false
set_option linter.unusedSimpArgs false
namespace Go.Proofs.Ytfblaicifdgfiaa.Dg
open Go.LM
theorem chk_loop (r c w : Int) (pl : List (List Int)) (hl : PB pl) : ∀ (j k : Nat) (ok : Bool), k + j = pl.length →
    loopO (fun (d : Bool × Int × Int × Int × Int × List (List Int)) ↦ (LQ.pcm_Check.l0 d.fst d.snd.fst d.snd.snd.fst d.snd.snd.snd.fst d.snd.snd.snd.snd.fst d.snd.snd.snd.snd.snd).run) (ok, (k : Int), r, c, w, pl)
      = some (ok && (List.range j).all (fun i => (pl.getD (k + i) []).length == (pl.getD 0 []).length), r, c, w, pl) := by
  have hn := hl.n1
  intro j
  induction j with
  | zero =>
    intro k ok hk
    refine (loopO_done (r := (ok, r, c, w, pl)) ?_).trans (by simp)
    simp only [LQ.pcm_Check.l0]
    rw [Tr.run_bind, Tr.run_br]
    cases ok with
    | false => rfl
    | true => rw [cond_true, decide_eq_false (by simp only [Int.ofNat_eq_natCast]; omega), Tr.run_ret]; rfl
  | succ j ih =>
    intro k ok hk
    cases ok with
    | false => exact loopO_done rfl
    | true =>
      have e2 : (List.range (j + 1)).all (fun i => (pl.getD (k + i) []).length == (pl.getD 0 []).length) = ((pl.getD k []).length == (pl.getD 0 []).length && (List.range j).all (fun i => (pl.getD (k + 1 + i) []).length == (pl.getD 0 []).length)) := by
        rw [List.range_succ_eq_map, List.all_cons, List.all_map]
        simp only [Nat.add_zero, Function.comp_def, Nat.succ_eq_add_one, Nat.add_assoc, Nat.add_comm 1]
      rw [e2, Bool.true_and]
      refine (loopO_next (d' := ((pl.getD k []).length == (pl.getD 0 []).length, ((k + 1 : Nat) : Int), r, c, w, pl)) ?_).trans (ih (k + 1) _ (by omega))
      simp only [LQ.pcm_Check.l0]
      rw [Tr.run_bind, Tr.run_br, cond_true, decide_eq_true (by simp only [Int.ofNat_eq_natCast]; omega), Tr.run_ret, Option.bind_some, Tr.run_br, cond_true, Tr.run_need _ (by simp only [Int.ofNat_eq_natCast]; omega), Tr.run_need _ (by simp only [Int.ofNat_eq_natCast]; omega), Tr.run_ret, w64_id (by omega), Int.toNat_natCast]
      congr 3
      rw [Bool.eq_iff_iff]; simp only [Int.ofNat_eq_natCast, beq_iff_eq]; omega
theorem all_from1 (pl : List (List Int)) : (List.range (pl.length - 1)).all (fun i => (pl.getD (1 + i) []).length == (pl.getD 0 []).length) = pl.all (fun l => l.length == (pl.getD 0 []).length) := by
  rw [← all_getD pl [] (fun l => l.length == (pl.getD 0 []).length)]
  cases pl with
  | nil => rfl
  | cons a l =>
    rw [List.length_cons, List.range_succ_eq_map, List.all_cons, List.all_map, Nat.add_sub_cancel]
    simp only [List.getD_cons_zero, beq_self_eq_true, Bool.true_and, Function.comp_def, Nat.succ_eq_add_one, Nat.add_comm 1]
theorem okKind_iff {r c w : Int} (h : okKind r c w = true) : 1 ≤ r ∧ r ≤ 655350 ∧ 1 ≤ c ∧ c ≤ 8 ∧ 4 ≤ w ∧ w ≤ 32 := of_decide_eq_true h
theorem Check_eq (r c w : Int) (pl : List (List Int)) (hl : PB pl) : LQ.pcm_Check (r, c, w, pl, ()) = some (chk r c w pl) := by
  unfold LQ.pcm_Check LQ.pcm_Check.t
  have hn0 := hl.n2 0
  simp only [Tr.run_bind, kind_eq, Option.bind_some, Tr.run_br]
  unfold chk pcmOk
  cases hk : okKind r c w with
  | false =>
    simp only [cond_false, Tr.run_ret, Option.bind_some]
    rw [loopO_done (r := (false, r, c, w, pl)) rfl]
    rfl
  | true =>
    have hb := okKind_iff hk
    simp only [cond_true, Tr.run_ret, Option.bind_some, Bool.true_and]
    cases hc : (((pl.length : Nat) : Int) == c) with
    | false =>
      rw [loopO_done (r := (false, r, c, w, pl)) rfl]
      rfl
    | true =>
      have hc' := beq_iff_eq.1 hc
      have hlen : 1 + (pl.length - 1) = pl.length := by omega
      have e := chk_loop r c w pl hl (pl.length - 1) 1 true hlen
      rw [all_from1, Bool.true_and] at e
      refine (congrArg (fun o => Option.bind o _) e).trans ?_
      simp only [Option.bind_some]
      unfold okPl
      cases pl.all (fun l => l.length == (pl.getD 0 []).length) with
      | false => rfl
      | true =>
        simp only [Bool.not_true, cond_false, each_eq pl r c w pl (by omega) hl, Option.bind_some, Tr.run_ret, Bool.true_and]
        cases pl.all (fun x => x.all (inW w)) with
        | false => rfl
        | true =>
          simp only [Bool.not_true, cond_false, pLen_eq, Option.bind_some]
          rw [decide_eq_false (by unfold lenV; omega)]
          rfl
theorem rchk_l1 (pl : List (List Int)) (i : Nat) (a b w : Int) (hi : i < pl.length) (hw : 4 ≤ w ∧ w ≤ 32) (hl : PB pl) :
    loopO (fun (d : Int × Int × Int × Int × List (List Int)) ↦ (LQ.r5_Check.l1 i d.fst d.snd.fst d.snd.snd.fst d.snd.snd.snd.fst d.snd.snd.snd.snd).run) ((0 : Int), a, b, w, pl)
      = some (bif (pl.getD i []).all (inW w) then .inr (a, b, w, pl) else .inl 50) := by
  have hn := hl.n2 i
  refine loopO_allL (f := fun (d : Int × Int × Int × Int × List (List Int)) ↦ (LQ.r5_Check.l1 i d.fst d.snd.fst d.snd.snd.fst d.snd.snd.snd.fst d.snd.snd.snd.snd).run) (fun k => ((k : Int), a, b, w, pl)) (pl.getD i []) 0 (inW w) _ _ ?_ ?_
  · intro k hk
    simp only [LQ.r5_Check.l1, Int.toNat_natCast]
    rw [Tr.run_need _ (by simp only [Int.ofNat_eq_natCast]; omega), Tr.run_br, decide_eq_true (by simp only [Int.ofNat_eq_natCast]; omega), cond_true, Tr.run_need _ (by simp only [Int.ofNat_eq_natCast]; omega), Tr.run_need _ (by simp only [Int.ofNat_eq_natCast]; omega), Tr.run_bind, Sample_eq _ w hw, Option.bind_some, w64_id (by omega)]
    cases inW w ((pl.getD i []).getD k 0) <;> rfl
  · simp only [LQ.r5_Check.l1, Int.toNat_natCast]
    rw [Tr.run_need _ (by simp only [Int.ofNat_eq_natCast]; omega), Tr.run_br, decide_eq_false (by simp only [Int.ofNat_eq_natCast]; omega), cond_false, Tr.run_ret]
theorem all_and {α : Type} (l : List α) (A B : α → Bool) : l.all (fun x => A x && B x) = (l.all A && l.all B) := by
  induction l with
  | nil => rfl
  | cons a l ih => simp only [List.all_cons, ih]; cases A a <;> cases B a <;> cases l.all A <;> rfl
theorem rCheck_eq (r c w : Int) (pl : List (List Int)) (hl : PB pl) : LQ.r5_Check (r, c, w, pl, ()) = some (chk r c w pl) := by
  unfold LQ.r5_Check LQ.r5_Check.t
  have hn := hl.n1
  have hn0 := hl.n2 0
  have e0 : (Tr.br (decide (r < (1 : Int))) (Tr.ret (true, r, c, w, pl)) (Tr.br (decide (r > (655350 : Int))) (Tr.ret (true, r, c, w, pl)) (Tr.br (decide (c < (1 : Int))) (Tr.ret (true, r, c, w, pl)) (Tr.br (decide (c > (8 : Int))) (Tr.ret (true, r, c, w, pl)) (Tr.br (decide (w < (4 : Int))) (Tr.ret (true, r, c, w, pl)) (Tr.br (decide (w > (32 : Int))) (Tr.ret (true, r, c, w, pl)) (Tr.ret (Int.ofNat pl.length != c, r, c, w, pl)))))))).run = some (!(okKind r c w && (((pl.length : Nat) : Int) == c)), r, c, w, pl) := by
    simp only [Tr.run_br, Tr.run_ret]
    by_cases h1 : 1 ≤ r
    · rw [decide_eq_false (p := r < 1) (by omega), cond_false]
      by_cases h2 : r ≤ 655350
      · rw [decide_eq_false (p := r > 655350) (by omega), cond_false]
        by_cases h3 : 1 ≤ c
        · rw [decide_eq_false (p := c < 1) (by omega), cond_false]
          by_cases h4 : c ≤ 8
          · rw [decide_eq_false (p := c > 8) (by omega), cond_false]
            by_cases h5 : 4 ≤ w
            · rw [decide_eq_false (p := w < 4) (by omega), cond_false]
              by_cases h6 : w ≤ 32
              · rw [decide_eq_false (p := w > 32) (by omega), cond_false, show okKind r c w = true from decide_eq_true ⟨h1, h2, h3, h4, h5, h6⟩]; rfl
              · rw [decide_eq_true (p := w > 32) (by omega), show okKind r c w = false from decide_eq_false (by omega)]; rfl
            · rw [decide_eq_true (p := w < 4) (by omega), show okKind r c w = false from decide_eq_false (by omega)]; rfl
          · rw [decide_eq_true (p := c > 8) (by omega), show okKind r c w = false from decide_eq_false (by omega)]; rfl
        · rw [decide_eq_true (p := c < 1) (by omega), show okKind r c w = false from decide_eq_false (by omega)]; rfl
      · rw [decide_eq_true (p := r > 655350) (by omega), show okKind r c w = false from decide_eq_false (by omega)]; rfl
    · rw [decide_eq_true (p := r < 1) (by omega), show okKind r c w = false from decide_eq_false (by omega)]; rfl
  rw [Tr.run_bind]
  refine (congrArg (fun o => Option.bind o _) e0).trans ?_
  unfold chk pcmOk
  cases hk : (okKind r c w && (((pl.length : Nat) : Int) == c)) with
  | false => rfl
  | true =>
    obtain ⟨hk, hc⟩ := Bool.and_eq_true_iff.1 hk
    have hb := okKind_iff hk
    simp only [Option.bind_some, Bool.not_true, Bool.true_and, Tr.run_br, cond_false, Tr.run_bind]
    have := loopO_allL (f := fun (d : Int × Int × Int × Int × List (List Int)) ↦ (LQ.r5_Check.l0 d.fst d.snd.fst d.snd.snd.fst d.snd.snd.snd.fst d.snd.snd.snd.snd).run) (fun k => ((k : Int), r, c, w, pl)) pl [] (fun x => x.length == (pl.getD 0 []).length && x.all (inW w)) (.inl 50) (.inr (r, c, w, pl)) ?_ ?_
    · refine (congrArg (fun o => Option.bind o _) this).trans ?_
      rw [Option.bind_some, all_and]
      unfold okPl
      cases (pl.all (fun l => l.length == (pl.getD 0 []).length) && pl.all (fun l => l.all (inW w))) with
      | false => rfl
      | true =>
        simp only [cond_true, Tr.run_csr, Tr.run_bind, rLen_eq, Option.bind_some, Tr.run_br]
        rw [decide_eq_false (by unfold lenV; omega)]
        rfl
    · intro k hk
      simp only [LQ.r5_Check.l0]
      rw [Tr.run_br, decide_eq_true (by simp only [Int.ofNat_eq_natCast]; omega), cond_true, Tr.run_need _ (by simp only [Int.ofNat_eq_natCast]; omega), Tr.run_bind, rLen_eq, Option.bind_some, Tr.run_br, Int.toNat_natCast]
      rw [show (Int.ofNat (pl.getD k []).length != lenV pl) = !((pl.getD k []).length == (pl.getD 0 []).length) by unfold lenV; rw [Bool.eq_iff_iff]; simp only [Int.ofNat_eq_natCast, bne_iff_ne, ne_eq, Bool.not_eq_true', beq_eq_false_iff_ne]; omega]
      cases ((pl.getD k []).length == (pl.getD 0 []).length) with
      | false => rfl
      | true =>
        simp only [Bool.not_true, cond_false, Bool.true_and]
        rw [Tr.run_bind]
        refine (congrArg (fun o => Option.bind o _) (rchk_l1 pl k r c w hk (by omega) hl)).trans ?_
        rw [Option.bind_some, w64_id (by omega)]
        cases (pl.getD k []).all (inW w) <;> rfl
    · simp only [LQ.r5_Check.l0]
      rw [Tr.run_br, decide_eq_false (by simp only [Int.ofNat_eq_natCast]; omega), cond_false, Tr.run_ret]
def fitsV (f r c w : Int) (pl : List (List Int)) : Int :=
  bif decide (f < 1 ∨ f > 5) then 1 else bif pcmOk r c w pl then (bif (bif decide (f ≤ 2) then decide (w % 8 = 0) else bif decide (f = 5) then decide (8 ≤ w ∧ w ≤ 24) else decide (w ≤ 24)) then 0 else 4) else 50
theorem five {f : Int} (h : ¬(f < 1 ∨ f > 5)) : f = 1 ∨ f = 2 ∨ f = 3 ∨ f = 4 ∨ f = 5 := by omega
theorem pcmOk_kind {r c w : Int} {pl} (h : pcmOk r c w pl = true) : okKind r c w = true := by
  unfold pcmOk at h; simp only [Bool.and_eq_true] at h; exact h.1.1
theorem Fits_eq (f r c w : Int) (pl : List (List Int)) (hl : PB pl) : LQ.pcm_Fits f (r, c, w, pl, ()) = some (fitsV f r c w pl) := by
  unfold LQ.pcm_Fits LQ.pcm_Fits.t fitsV
  simp only [Tr.run_bind, Tr.run_br, Tr.run_ret]
  by_cases h : f < 1 ∨ f > 5
  · rw [decide_eq_true h]
    by_cases h1 : f < 1
    · rw [decide_eq_true h1]; rfl
    · rw [decide_eq_false h1, decide_eq_true (p := f > 5) (by omega)]; rfl
  · rw [decide_eq_false h, decide_eq_false (p := f < 1) (by omega), decide_eq_false (p := f > 5) (by omega)]
    simp only [cond_false, Option.bind_some, Check_eq r c w pl hl, chk]
    cases hp : pcmOk r c w pl with
    | false => rfl
    | true =>
      have hb := okKind_iff (pcmOk_kind hp)
      have ht := Int.tmod_eq_emod_of_nonneg (a := w) (b := 8) (by omega)
      rcases five h with rfl | rfl | rfl | rfl | rfl <;> by_cases h8 : 8 ≤ w <;> by_cases h9 : w ≤ 24 <;> by_cases h10 : w % 8 = 0 <;> first | (simp [h8, h9, h10, ht]; done) | simp [h8, h9, h10, ht, (beq_eq_false_iff_ne (a := w % 8) (b := 0)).2 h10]
theorem rFits_eq (f r c w : Int) (pl : List (List Int)) (hl : PB pl) : LQ.r5_Fits f (r, c, w, pl, ()) = some (fitsV f r c w pl) := by
  unfold LQ.r5_Fits LQ.r5_Fits.t fitsV
  simp only [Tr.run_bind, Tr.run_br, Tr.run_ret]
  by_cases h : f < 1 ∨ f > 5
  · rw [decide_eq_true h]
    by_cases h1 : f < 1
    · rw [decide_eq_true h1]; rfl
    · rw [decide_eq_false h1, decide_eq_true (p := f > 5) (by omega)]; rfl
  · rw [decide_eq_false h, decide_eq_false (p := f < 1) (by omega), decide_eq_false (p := f > 5) (by omega)]
    simp only [cond_false, Option.bind_some, rCheck_eq r c w pl hl, chk]
    cases hp : pcmOk r c w pl with
    | false => rfl
    | true =>
      have hb := okKind_iff (pcmOk_kind hp)
      have ht := Int.tmod_eq_emod_of_nonneg (a := w) (b := 8) (by omega)
      rcases five h with rfl | rfl | rfl | rfl | rfl <;> by_cases h8 : 8 ≤ w <;> by_cases h9 : w ≤ 24 <;> by_cases h10 : w % 8 = 0 <;> first | (simp [h8, h9, h10, ht]; done) | simp [h8, h9, h10, ht, (beq_eq_false_iff_ne (a := w % 8) (b := 0)).2 h10]
theorem list_eq_getD (a b : List Int) (h : a.length = b.length) : a.all (fun _ => true) = true ∧ ((List.range a.length).all (fun i => a.getD i 0 == b.getD i 0) = (a == b)) := by
  refine ⟨by simp, ?_⟩
  rw [Bool.eq_iff_iff, List.all_eq_true, beq_iff_eq]
  constructor
  · intro he
    apply List.ext_getElem h
    intro i h1 h2
    have := beq_iff_eq.1 (he i (List.mem_range.2 h1))
    rwa [getD_lt _ _ h1, getD_lt _ _ h2] at this
  · rintro rfl i hi; simp
theorem lists_eq_getD (a b : List (List Int)) (h : a.length = b.length) : ((List.range a.length).all (fun i => a.getD i [] == b.getD i []) = (a == b)) := by
  rw [Bool.eq_iff_iff, List.all_eq_true, beq_iff_eq]
  constructor
  · intro he
    apply List.ext_getElem h
    intro i h1 h2
    have := beq_iff_eq.1 (he i (List.mem_range.2 h1))
    rwa [getD_lt _ _ h1, getD_lt _ _ h2] at this
  · rintro rfl i hi; simp
theorem len_ne {α : Type} (a b : List α) : (Int.ofNat a.length != Int.ofNat b.length) = !(a.length == b.length) := by
  rw [Bool.eq_iff_iff]; simp only [Int.ofNat_eq_natCast, bne_iff_ne, ne_eq, Bool.not_eq_true', beq_eq_false_iff_ne]; omega
theorem Ints_eq (a b : List Int) (ha : a.length ≤ 1099511627776) : LQ.r5_Ints a b = some (a == b) := by
  unfold LQ.r5_Ints LQ.r5_Ints.t
  rw [Tr.run_br, len_ne]
  by_cases h : a.length = b.length
  · rw [show (a.length == b.length) = true by simpa using h, Bool.not_true, cond_false, Tr.run_bind]
    have := loopO_all (f := fun (d : Int) ↦ (LQ.r5_Ints.l0 a b d).run) (fun k => (k : Int)) (fun i => a.getD i 0 == b.getD i 0) (.inl false) (.inr ()) a.length a.length 0 (by omega) ?_ ?_
    · refine (congrArg (fun o => Option.bind o _) this).trans ?_
      simp only [Nat.zero_add, (list_eq_getD a b h).2]
      cases (a == b) <;> rfl
    · intro i _ hi
      simp only [LQ.r5_Ints.l0]
      rw [Tr.run_br, decide_eq_true (by simp only [Int.ofNat_eq_natCast]; omega), cond_true, Tr.run_need _ (by simp only [Int.ofNat_eq_natCast]; omega), Tr.run_need _ (by simp only [Int.ofNat_eq_natCast]; omega), Int.toNat_natCast, Tr.run_br, w64_id (by omega)]
      unfold bne
      cases (a.getD i 0 == b.getD i 0) <;> rfl
    · simp only [LQ.r5_Ints.l0]
      rw [Tr.run_br, decide_eq_false (by simp only [Int.ofNat_eq_natCast]; omega), cond_false, Tr.run_ret]
  · rw [show (a.length == b.length) = false by simpa using h, Bool.not_false, cond_true, Tr.run_ret]
    rw [show (a == b) = false by rw [beq_eq_false_iff_ne]; rintro rfl; exact h rfl]
theorem Equal_eq (a b : List Int) (ha : a.length ≤ 1099511627776) : LQ.slices_Equal a b = some (a == b) := by
  unfold LQ.slices_Equal LQ.slices_Equal.t
  rw [Tr.run_br, len_ne]
  by_cases h : a.length = b.length
  · rw [show (a.length == b.length) = true by simpa using h, Bool.not_true, cond_false, Tr.run_bind]
    have := loopO_all (f := fun (d : Int) ↦ (LQ.slices_Equal.l0 a b d).run) (fun k => (k : Int)) (fun i => a.getD i 0 == b.getD i 0) (.inl false) (.inr ()) a.length a.length 0 (by omega) ?_ ?_
    · refine (congrArg (fun o => Option.bind o _) this).trans ?_
      simp only [Nat.zero_add, (list_eq_getD a b h).2]
      cases (a == b) <;> rfl
    · intro i _ hi
      simp only [LQ.slices_Equal.l0]
      rw [Tr.run_br, decide_eq_true (by simp only [Int.ofNat_eq_natCast]; omega), cond_true, Tr.run_need _ (by simp only [Int.ofNat_eq_natCast]; omega), Tr.run_need _ (by simp only [Int.ofNat_eq_natCast]; omega), Int.toNat_natCast, Tr.run_br, w64_id (by omega)]
      unfold bne
      cases (a.getD i 0 == b.getD i 0) <;> rfl
    · simp only [LQ.slices_Equal.l0]
      rw [Tr.run_br, decide_eq_false (by simp only [Int.ofNat_eq_natCast]; omega), cond_false, Tr.run_ret]
  · rw [show (a.length == b.length) = false by simpa using h, Bool.not_false, cond_true, Tr.run_ret]
    rw [show (a == b) = false by rw [beq_eq_false_iff_ne]; rintro rfl; exact h rfl]
theorem SamePl_eq (a b : List (List Int)) (ha : a.length ≤ 1048576) (h2 : ∀ i, (a.getD i []).length ≤ 1099511627776) : LQ.r5_SamePlanes a b = some (a == b) := by
  unfold LQ.r5_SamePlanes LQ.r5_SamePlanes.t
  rw [Tr.run_br, len_ne]
  by_cases h : a.length = b.length
  · rw [show (a.length == b.length) = true by simpa using h, Bool.not_true, cond_false, Tr.run_bind]
    have := loopO_all (f := fun (d : Int) ↦ (LQ.r5_SamePlanes.l0 a b d).run) (fun k => (k : Int)) (fun i => a.getD i [] == b.getD i []) (.inl false) (.inr ()) a.length a.length 0 (by omega) ?_ ?_
    · refine (congrArg (fun o => Option.bind o _) this).trans ?_
      simp only [Nat.zero_add, lists_eq_getD a b h]
      cases (a == b) <;> rfl
    · intro i _ hi
      simp only [LQ.r5_SamePlanes.l0]
      rw [Tr.run_br, decide_eq_true (by simp only [Int.ofNat_eq_natCast]; omega), cond_true, Tr.run_need _ (by simp only [Int.ofNat_eq_natCast]; omega), Tr.run_need _ (by simp only [Int.ofNat_eq_natCast]; omega), Int.toNat_natCast, Tr.run_bind, Ints_eq _ _ (h2 i), Option.bind_some, Tr.run_br, w64_id (by omega)]
      cases (a.getD i [] == b.getD i []) <;> rfl
    · simp only [LQ.r5_SamePlanes.l0]
      rw [Tr.run_br, decide_eq_false (by simp only [Int.ofNat_eq_natCast]; omega), cond_false, Tr.run_ret]
  · rw [show (a.length == b.length) = false by simpa using h, Bool.not_false, cond_true, Tr.run_ret]
    rw [show (a == b) = false by rw [beq_eq_false_iff_ne]; rintro rfl; exact h rfl]
theorem EqF_eq (a b : List (List Int)) (ha : a.length ≤ 1048576) (h2 : ∀ i, (a.getD i []).length ≤ 1099511627776) : LQ.EqualFunc a b = some (a == b) := by
  unfold LQ.EqualFunc LQ.EqualFunc.t
  rw [Tr.run_br, len_ne]
  by_cases h : a.length = b.length
  · rw [show (a.length == b.length) = true by simpa using h, Bool.not_true, cond_false, Tr.run_bind]
    have := loopO_all (f := fun (d : Int) ↦ (LQ.EqualFunc.l0 a b d).run) (fun k => (k : Int)) (fun i => a.getD i [] == b.getD i []) (.inl false) (.inr ()) a.length a.length 0 (by omega) ?_ ?_
    · refine (congrArg (fun o => Option.bind o _) this).trans ?_
      simp only [Nat.zero_add, lists_eq_getD a b h]
      cases (a == b) <;> rfl
    · intro i _ hi
      simp only [LQ.EqualFunc.l0]
      rw [Tr.run_br, decide_eq_true (by simp only [Int.ofNat_eq_natCast]; omega), cond_true, Tr.run_need _ (by simp only [Int.ofNat_eq_natCast]; omega), Tr.run_need _ (by simp only [Int.ofNat_eq_natCast]; omega), Int.toNat_natCast, Tr.run_bind, Equal_eq _ _ (h2 i), Option.bind_some, Tr.run_br, w64_id (by omega)]
      cases (a.getD i [] == b.getD i []) <;> rfl
    · simp only [LQ.EqualFunc.l0]
      rw [Tr.run_br, decide_eq_false (by simp only [Int.ofNat_eq_natCast]; omega), cond_false, Tr.run_ret]
  · rw [show (a.length == b.length) = false by simpa using h, Bool.not_false, cond_true, Tr.run_ret]
    rw [show (a == b) = false by rw [beq_eq_false_iff_ne]; rintro rfl; exact h rfl]
theorem rSame_two (p q : Int × Int × Int × List (List Int) × PUnit) (ha : p.2.2.2.1.length ≤ 1048576) (h2 : ∀ i, (p.2.2.2.1.getD i []).length ≤ 1099511627776) : LQ.r5_Same p q = some (p.1 == q.1 && (p.2.1 == q.2.1 && (p.2.2.1 == q.2.2.1 && p.2.2.2.1 == q.2.2.2.1))) := by
  unfold LQ.r5_Same LQ.r5_Same.t
  simp only [Tr.run_bind, Tr.run_br, Tr.run_ret, SamePl_eq p.2.2.2.1 q.2.2.2.1 ha h2, Option.bind_some]
  cases (p.1 == q.1) <;> cases (p.2.1 == q.2.1) <;> cases (p.2.2.1 == q.2.2.1) <;> rfl
theorem pSame_two (p q : Int × Int × Int × List (List Int) × PUnit) (ha : p.2.2.2.1.length ≤ 1048576) (h2 : ∀ i, (p.2.2.2.1.getD i []).length ≤ 1099511627776) : LQ.pcm_Same p q = some (p.1 == q.1 && (p.2.1 == q.2.1 && (p.2.2.1 == q.2.2.1 && p.2.2.2.1 == q.2.2.2.1))) := by
  unfold LQ.pcm_Same LQ.pcm_Same.t
  simp only [Tr.run_bind, Tr.run_br, Tr.run_ret, EqF_eq p.2.2.2.1 q.2.2.2.1 ha h2, Option.bind_some]
  cases (p.1 == q.1) <;> cases (p.2.1 == q.2.1) <;> cases (p.2.2.1 == q.2.2.1) <;> rfl
theorem rSame_self (r c w : Int) (pl : List (List Int)) (u u' : PUnit) (ha : pl.length ≤ 1048576) (h2 : ∀ i, (pl.getD i []).length ≤ 1048576) : LQ.r5_Same (r, c, w, pl, u) (r, c, w, pl, u') = some true := by
  unfold LQ.r5_Same LQ.r5_Same.t
  simp only [Tr.run_bind, Tr.run_br, Tr.run_ret, beq_self_eq_true, cond_true, SamePl_eq pl pl ha (fun i => Nat.le_trans (h2 i) (by decide)), Option.bind_some]
end Go.Proofs.Ytfblaicifdgfiaa.Dg
end

section
set_option linter.unusedVariables false
set_option linter.unusedSimpArgs false
namespace Go.LM
def bwN (W : Nat) : Nat := (W + 7) / 8
def numU (uns : Bool) (W : Nat) (n : Int) : Nat := bif uns then (n + half W).toNat else (n % ((256 ^ bwN W : Nat) : Int)).toNat
def smpB (big : Bool) (N B : Nat) : List UInt8 := (List.range B).map fun k => UInt8.ofNat (N / 256 ^ (bif big then B - 1 - k else k))
def rowV (big uns : Bool) (W : Nat) (pl : List (List Int)) (i : Nat) : List UInt8 := pl.flatMap fun l => smpB big (numU uns W (l.getD i 0)) (bwN W)
def packV (big uns : Bool) (W : Nat) (pl : List (List Int)) : List UInt8 := (List.range (pl.getD 0 []).length).flatMap (rowV big uns W pl)
theorem smpB_len (big : Bool) (N B : Nat) : (smpB big N B).length = B := by simp [smpB]
theorem smpB_le (N B : Nat) : leB N B = smpB false N B := rfl
theorem smpB_be (N B : Nat) : (leB N B).reverse = smpB true N B := by
  apply List.ext_getElem (by simp [smpB, leB])
  intro i h1 h2
  have hi : i < B := by simpa [leB] using h1
  simp [leB, smpB, List.getElem_reverse, hi]
theorem bwN_bd {W : Nat} (h : 4 ≤ W ∧ W ≤ 32) : 1 ≤ bwN W ∧ bwN W ≤ 4 ∧ W ≤ 8 * bwN W ∧ 8 * bwN W < W + 8 := by unfold bwN; omega
theorem tdiv8 {W : Nat} (h : 4 ≤ W ∧ W ≤ 32) : w64 ((w64 ((W : Int) + 7)).tdiv 8) = (bwN W : Nat) := by
  rw [w64_id (x := (W : Int) + 7) (by omega), Int.tdiv_eq_ediv_of_nonneg (by omega), w64_id (by omega)]
  unfold bwN; omega
theorem byte_mod (n : Int) (B k : Nat) (hB : B ≤ 4) (hk : k < B) : (n / ((256 ^ k : Nat) : Int) % 256).toNat = (n % ((256 ^ B : Nat) : Int)).toNat / 256 ^ k % 256 := by
  obtain rfl | rfl | rfl | rfl : B = 1 ∨ B = 2 ∨ B = 3 ∨ B = 4 := by omega
  · obtain rfl : k = 0 := by omega
    simp only [Nat.reducePow, Int.cast_ofNat_Int]; omega
  · obtain rfl | rfl : k = 0 ∨ k = 1 := by omega
    all_goals simp only [Nat.reducePow, Int.cast_ofNat_Int]; omega
  · obtain rfl | rfl | rfl : k = 0 ∨ k = 1 ∨ k = 2 := by omega
    all_goals simp only [Nat.reducePow, Int.cast_ofNat_Int]; omega
  · obtain rfl | rfl | rfl | rfl : k = 0 ∨ k = 1 ∨ k = 2 ∨ k = 3 := by omega
    all_goals simp only [Nat.reducePow, Int.cast_ofNat_Int]; omega
theorem flatMap_le {α β : Type} (l : List α) (f : α → List β) (M : Nat) (h : ∀ x, (f x).length ≤ M) : (l.flatMap f).length ≤ l.length * M := by
  induction l with
  | nil => simp
  | cons a l ih => rw [List.flatMap_cons, List.length_append, List.length_cons, Nat.succ_mul]; have := h a; omega
theorem two_half {W : Nat} (h : 4 ≤ W ∧ W ≤ 32) : 2 * half W ≤ ((256 ^ bwN W : Nat) : Int) := by
  have hb := bwN_bd h
  have h1 : 2 ^ W ≤ 2 ^ (8 * bwN W) := Nat.pow_le_pow_right (by decide) (by omega)
  rw [Nat.pow_mul, show 2 ^ 8 = 256 from rfl] at h1
  unfold half
  have h2 : 2 * 2 ^ ((W : Int) - 1).toNat = 2 ^ W := by rw [show ((W : Int) - 1).toNat = W - 1 by omega, ← Nat.pow_succ']; congr 1; omega
  omega
theorem inW_iff {w n : Int} (h : inW w n = true) : -half w ≤ n ∧ n < half w := of_decide_eq_true h
theorem numU_lt {W : Nat} (uns : Bool) {n : Int} (h : 4 ≤ W ∧ W ≤ 32) (hn : inW W n = true) : numU uns W n < 256 ^ bwN W := by
  have h1 := two_half h
  have h2 := inW_iff hn
  have h3 := half_bd (w := (W : Int)) (by omega)
  cases uns with
  | true => simp only [numU, cond_true]; omega
  | false =>
    simp only [numU, cond_false]
    have := Int.emod_lt_of_pos n (b := ((256 ^ bwN W : Nat) : Int)) (by omega)
    omega
end Go.LM
namespace Go.Proofs.Ytfblaicifdgfiaa.Dg
open Go.LM
def offN (uns : Bool) (W : Nat) (n : Int) : Int := bif uns then n + half W else n
theorem byte_off {W : Nat} (uns : Bool) {n : Int} (h : 4 ≤ W ∧ W ≤ 32) (hn : inW W n = true) (k : Nat) (hk : k < bwN W) : (offN uns W n / ((256 ^ k : Nat) : Int) % 256).toNat = numU uns W n / 256 ^ k % 256 := by
  have hb := bwN_bd h
  have h2 := inW_iff hn
  cases uns with
  | true =>
    simp only [offN, numU, cond_true]
    rw [← byte_div, Int.toNat_of_nonneg (by omega)]
  | false => exact byte_mod n (bwN W) k (by omega) hk
theorem pack_l2 (r c : Int) (W : Nat) (pl : List (List Int)) (u : PUnit) (big uns : Bool) (n : Int) (x : (Int × Int × Int × List (List Int)) × (Bool × Bool) × List UInt8) (buf : List UInt8) (h : 4 ≤ W ∧ W ≤ 32) (hn : inW W n = true) (hb : buf.length ≤ 1099511627776) :
    loopO (fun (d : Int × (Int × Int × Int × List (List Int)) × (Bool × Bool) × List UInt8) ↦ (LQ.pcm_Pack.l2 (r, c, (W : Int), pl, u) (offN uns W n, x) d.fst d.snd.fst d.snd.snd.fst d.snd.snd.snd).run) ((0 : Int), (r, c, (W : Int), pl), (big, uns), buf)
      = some ((r, c, (W : Int), pl), (big, uns), buf ++ smpB big (numU uns W n) (bwN W)) := by
  have hw := bwN_bd h
  have := loopO_steps (f := fun (d : Int × (Int × Int × Int × List (List Int)) × (Bool × Bool) × List UInt8) ↦ (LQ.pcm_Pack.l2 (r, c, (W : Int), pl, u) (offN uns W n, x) d.fst d.snd.fst d.snd.snd.fst d.snd.snd.snd).run)
    (fun k => ((k : Int), (r, c, (W : Int), pl), (big, uns), buf ++ (List.range k).map fun k => UInt8.ofNat (numU uns W n / 256 ^ (bif big then bwN W - 1 - k else k)))) (r := ((r, c, (W : Int), pl), (big, uns), buf ++ smpB big (numU uns W n) (bwN W))) (bwN W) ?_ ?_
  · simpa using this
  · intro k hk
    simp only [LQ.pcm_Pack.l2]
    rw [tdiv8 h, Tr.run_br, decide_eq_true (by omega), cond_true, Tr.run_bind, Tr.run_br]
    have e : (bif big then (Tr.ret (w64 (w64 (((bwN W : Nat) : Int) - 1) - (k : Int)), (r, c, (W : Int), pl), (big, uns), buf ++ (List.range k).map fun k => UInt8.ofNat (numU uns W n / 256 ^ (bif big then bwN W - 1 - k else k)))).run else (Tr.ret ((k : Int), (r, c, (W : Int), pl), (big, uns), buf ++ (List.range k).map fun k => UInt8.ofNat (numU uns W n / 256 ^ (bif big then bwN W - 1 - k else k)))).run)
        = some (((bif big then bwN W - 1 - k else k : Nat) : Int), (r, c, (W : Int), pl), (big, uns), buf ++ (List.range k).map fun k => UInt8.ofNat (numU uns W n / 256 ^ (bif big then bwN W - 1 - k else k))) := by
      cases big with
      | true => rw [cond_true, Tr.run_ret, w64_id (x := ((bwN W : Nat) : Int) - 1) (by omega), w64_id (by omega), cond_true]; congr 2; omega
      | false => rfl
    refine (congrArg (fun o => Option.bind o _) e).trans ?_
    have hk' : (bif big then bwN W - 1 - k else k) < bwN W := by cases big <;> simp only [cond_true, cond_false] <;> omega
    rw [Option.bind_some, Tr.run_need _ (by rw [w64_id (by omega)]; omega), Tr.run_need _ (by simp only [List.length_append, List.length_map, List.length_range, List.length_set, List.length_replicate]; omega), Tr.run_ret, w64_id (x := (k : Int) + 1) (by omega), w64_id (by omega)]
    simp only []
    rw [show (8 * ((bif big then bwN W - 1 - k else k : Nat) : Int)) = ((8 * (bif big then bwN W - 1 - k else k) : Nat) : Int) by omega, p2_8 _ (by omega), byte_off uns h hn _ hk', ofNat_mod, List.range_succ, List.map_append, List.append_assoc]
    rfl
  · simp only [LQ.pcm_Pack.l2]
    rw [tdiv8 h, Tr.run_br, decide_eq_false (by omega), cond_false, Tr.run_ret]
    rfl
theorem okPl_len {w : Int} {pl : List (List Int)} (h : okPl w pl = true) (k : Nat) (hk : k < pl.length) : (pl.getD k []).length = (pl.getD 0 []).length := by
  unfold okPl at h
  have h1 := List.all_eq_true.1 (Bool.and_eq_true_iff.1 h).1 (pl.getD k []) (by rw [getD_lt _ _ hk]; exact List.getElem_mem hk)
  exact beq_iff_eq.1 h1
theorem okPl_in {w : Int} {pl : List (List Int)} (h : okPl w pl = true) (k i : Nat) (hk : k < pl.length) (hi : i < (pl.getD 0 []).length) : inW w ((pl.getD k []).getD i 0) = true := by
  have hl := okPl_len h k hk
  unfold okPl at h
  have h1 := List.all_eq_true.1 (Bool.and_eq_true_iff.1 h).2 (pl.getD k []) (by rw [getD_lt _ _ hk]; exact List.getElem_mem hk)
  exact List.all_eq_true.1 h1 _ (by rw [getD_lt (pl.getD k []) _ (by omega)]; exact List.getElem_mem _)
theorem flat_succ {α β : Type} (l : List α) (z : α) (f : α → List β) (k : Nat) (hk : k < l.length) : (l.take (k + 1)).flatMap f = (l.take k).flatMap f ++ f (l.getD k z) := by
  rw [List.take_succ_eq_append_getElem hk, List.flatMap_append, getD_lt _ _ hk]; simp
theorem pack_l1 (r c : Int) (W : Nat) (pl : List (List Int)) (u : PUnit) (big uns : Bool) (i : Nat) (buf : List UInt8) (h : 4 ≤ W ∧ W ≤ 32) (hok : okPl W pl = true) (hi : i < (pl.getD 0 []).length) (hl : pl.length ≤ 8) (hb : buf.length ≤ 549755813888) :
    loopO (fun (d : Int × (Int × Int × Int × List (List Int)) × (Bool × Bool) × List UInt8) ↦ (LQ.pcm_Pack.l1 (r, c, (W : Int), pl, u) (i : Int) (r, c, (W : Int), pl) d.fst d.snd.fst d.snd.snd.fst d.snd.snd.snd).run) ((0 : Int), (r, c, (W : Int), pl), (big, uns), buf)
      = some ((r, c, (W : Int), pl), (big, uns), buf ++ rowV big uns W pl i) := by
  have hw := bwN_bd h
  have hh := half_bd (w := (W : Int)) (by omega)
  have := loopO_steps (f := fun (d : Int × (Int × Int × Int × List (List Int)) × (Bool × Bool) × List UInt8) ↦ (LQ.pcm_Pack.l1 (r, c, (W : Int), pl, u) (i : Int) (r, c, (W : Int), pl) d.fst d.snd.fst d.snd.snd.fst d.snd.snd.snd).run)
    (fun k => ((k : Int), (r, c, (W : Int), pl), (big, uns), buf ++ (pl.take k).flatMap fun l => smpB big (numU uns W (l.getD i 0)) (bwN W))) (r := ((r, c, (W : Int), pl), (big, uns), buf ++ rowV big uns W pl i)) pl.length ?_ ?_
  · simpa using this
  · intro k hk
    simp only [LQ.pcm_Pack.l1]
    have hlen := okPl_len hok k hk
    have hin := okPl_in hok k i hk hi
    have h2 := inW_iff hin
    have hf := flatMap_le (pl.take k) (fun l => smpB big (numU uns W (l.getD i 0)) (bwN W)) (bwN W) (fun l => by rw [smpB_len]; omega)
    have hf2 : (pl.take k).length * bwN W ≤ 8 * 4 := Nat.mul_le_mul (by rw [List.length_take]; omega) (by omega)
    rw [Tr.run_br, decide_eq_true (by simp only [Int.ofNat_eq_natCast]; omega), cond_true, Tr.run_need _ (by simp only [Int.ofNat_eq_natCast]; omega), Int.toNat_natCast, Tr.run_need _ (by simp only [Int.ofNat_eq_natCast]; omega), Int.toNat_natCast, w64_id (x := (W : Int) - 1) (by omega), Tr.run_bind, Tr.run_br, Tr.run_need _ (by omega), p2_half (by omega), Int.one_mul, w64_id (x := half W) (by omega), w64_id (by omega), Tr.run_ret, Tr.run_ret]
    have e : (bif uns then some ((pl.getD k []).getD i 0 + half W, (r, c, (W : Int), pl), (big, uns), buf ++ (pl.take k).flatMap fun l => smpB big (numU uns W (l.getD i 0)) (bwN W)) else some ((pl.getD k []).getD i 0, (r, c, (W : Int), pl), (big, uns), buf ++ (pl.take k).flatMap fun l => smpB big (numU uns W (l.getD i 0)) (bwN W)))
      = some (offN uns W ((pl.getD k []).getD i 0), (r, c, (W : Int), pl), (big, uns), buf ++ (pl.take k).flatMap fun l => smpB big (numU uns W (l.getD i 0)) (bwN W)) := by cases uns <;> rfl
    refine (congrArg (fun o => Option.bind o _) e).trans ?_
    rw [Option.bind_some, Tr.run_bind]
    refine (congrArg (fun o => Option.bind o _) (pack_l2 r c W pl u big uns _ _ _ h hin (by rw [List.length_append]; omega))).trans ?_
    rw [Option.bind_some, Tr.run_ret, w64_id (by omega), flat_succ pl [] _ k hk, List.append_assoc]
    rfl
  · simp only [LQ.pcm_Pack.l1]
    rw [Tr.run_br, decide_eq_false (by simp only [Int.ofNat_eq_natCast]; omega), cond_false, Tr.run_ret, List.take_length]
    rfl
theorem row_le (big uns : Bool) (W : Nat) (pl : List (List Int)) (i : Nat) (h : 4 ≤ W ∧ W ≤ 32) (hl : pl.length ≤ 8) : (rowV big uns W pl i).length ≤ 32 := by
  have hw := bwN_bd h
  have h1 := flatMap_le pl (fun l => smpB big (numU uns W (l.getD i 0)) (bwN W)) (bwN W) (fun l => by rw [smpB_len]; omega)
  have h2 : pl.length * bwN W ≤ 8 * 4 := Nat.mul_le_mul hl (by omega)
  unfold rowV; omega
theorem rows_le (big uns : Bool) (W : Nat) (pl : List (List Int)) (i : Nat) (h : 4 ≤ W ∧ W ≤ 32) (hl : pl.length ≤ 8) : ((List.range i).flatMap (rowV big uns W pl)).length ≤ i * 32 := by
  have := flatMap_le (List.range i) (rowV big uns W pl) 32 (fun i => row_le big uns W pl i h hl)
  rwa [List.length_range] at this
theorem flat_range {β : Type} (f : Nat → List β) (i : Nat) : (List.range (i + 1)).flatMap f = (List.range i).flatMap f ++ f i := by
  rw [List.range_succ, List.flatMap_append]; simp
theorem pack_l0 (r c : Int) (W : Nat) (pl : List (List Int)) (u : PUnit) (big uns : Bool) (h : 4 ≤ W ∧ W ≤ 32) (hok : okPl W pl = true) (hl : pl.length ≤ 8) (hn : (pl.getD 0 []).length ≤ 1048576) :
    loopO (fun (d : Int × (Int × Int × Int × List (List Int)) × (Bool × Bool) × List UInt8) ↦ (LQ.pcm_Pack.l0 (r, c, (W : Int), pl, u) (lenV pl) d.fst d.snd.fst d.snd.snd.fst d.snd.snd.snd).run) ((0 : Int), (r, c, (W : Int), pl), (big, uns), [])
      = some (packV big uns W pl) := by
  have := loopO_steps (f := fun (d : Int × (Int × Int × Int × List (List Int)) × (Bool × Bool) × List UInt8) ↦ (LQ.pcm_Pack.l0 (r, c, (W : Int), pl, u) (lenV pl) d.fst d.snd.fst d.snd.snd.fst d.snd.snd.snd).run)
    (fun i => ((i : Int), (r, c, (W : Int), pl), (big, uns), (List.range i).flatMap (rowV big uns W pl))) (r := packV big uns W pl) (pl.getD 0 []).length ?_ ?_
  · simpa using this
  · intro i hi
    simp only [LQ.pcm_Pack.l0]
    have hf := rows_le big uns W pl i h hl
    rw [Tr.run_br, decide_eq_true (by unfold lenV; omega), cond_true, Tr.run_bind]
    refine (congrArg (fun o => Option.bind o _) (pack_l1 r c W pl u big uns i _ h hok hi hl (by omega))).trans ?_
    rw [Option.bind_some, Tr.run_ret, w64_id (by omega), flat_range]
    rfl
  · simp only [LQ.pcm_Pack.l0]
    rw [Tr.run_br, decide_eq_false (by unfold lenV; omega), cond_false, Tr.run_ret]
    rfl
theorem pcmOk_parts {r c w : Int} {pl : List (List Int)} (h : pcmOk r c w pl = true) : ∃ W C : Nat, w = (W : Int) ∧ c = (C : Int) ∧ 4 ≤ W ∧ W ≤ 32 ∧ 1 ≤ C ∧ C ≤ 8 ∧ pl.length = C ∧ 1 ≤ r ∧ r ≤ 655350 ∧ okPl w pl = true := by
  unfold pcmOk at h
  simp only [Bool.and_eq_true] at h
  have h1 := okKind_iff h.1.1
  have h2 := beq_iff_eq.1 h.1.2
  exact ⟨w.toNat, c.toNat, by omega, by omega, by omega, by omega, by omega, by omega, by omega, by omega, by omega, h.2⟩
theorem Pack_eq (r c w : Int) (pl : List (List Int)) (big uns : Bool) (hl : PB pl) : LQ.pcm_Pack (r, c, w, pl, ()) (big, uns, ()) = some (bif pcmOk r c w pl then (packV big uns w.toNat pl, 0) else ([], 50)) := by
  unfold LQ.pcm_Pack LQ.pcm_Pack.t
  have hn0 := hl.n2 0
  simp only [Tr.run_bind, Check_eq r c w pl hl, Option.bind_some, Tr.run_br, chk]
  cases hp : pcmOk r c w pl with
  | false => rfl
  | true =>
    obtain ⟨W, C, rfl, rfl, h1, h2, h3, h4, h5, h6, h7, h8⟩ := pcmOk_parts hp
    have hb := bwN_bd ⟨h1, h2⟩
    have hm : bwN W * C ≤ 4 * 8 := Nat.mul_le_mul (by omega) h4
    have hm2 : bwN W * C * (pl.getD 0 []).length ≤ 32 * 1048576 := Nat.mul_le_mul hm hn0
    simp only [cond_true, pLen_eq, Option.bind_some]
    rw [tdiv8 ⟨h1, h2⟩, show ((bwN W : Nat) : Int) * (C : Int) = ((bwN W * C : Nat) : Int) by rw [Int.natCast_mul], w64_id (x := ((bwN W * C : Nat) : Int)) (by omega)]
    unfold lenV
    rw [show ((bwN W * C : Nat) : Int) * (((pl.getD 0 []).length : Nat) : Int) = ((bwN W * C * (pl.getD 0 []).length : Nat) : Int) by simp only [Int.natCast_mul], w64_id (by omega)]
    rw [show ((0 : Int) != 0) = false from rfl, cond_false, Tr.run_need _ (by omega), Tr.run_bind, Option.bind_some, Tr.run_bind]
    refine (congrArg (fun o => Option.bind o _) (pack_l0 r C W pl () big uns ⟨h1, h2⟩ h8 (by omega) hn0)).trans ?_
    rfl
theorem rpack_l1 (r : Int) (C : Nat) (W : Nat) (pl : List (List Int)) (u : PUnit) (big uns : Bool) (i : Nat) (buf : List UInt8) (h : 4 ≤ W ∧ W ≤ 32) (hok : okPl W pl = true) (hi : i < (pl.getD 0 []).length) (hC : pl.length = C) (hl : pl.length ≤ 8) (hb : buf.length ≤ 549755813888) :
    loopO (fun (d : Int × (Int × Int × Int × List (List Int)) × (Bool × Bool) × List UInt8) ↦ (LQ.r5_Pack.l1 (r, (C : Int), (W : Int), pl, u) (i : Int) d.fst d.snd.fst d.snd.snd.fst d.snd.snd.snd).run) ((0 : Int), (r, (C : Int), (W : Int), pl), (big, uns), buf)
      = some ((r, (C : Int), (W : Int), pl), (big, uns), buf ++ rowV big uns W pl i) := by
  have hw := bwN_bd h
  have hh := half_bd (w := (W : Int)) (by omega)
  have h2h := two_half h
  have := loopO_steps (f := fun (d : Int × (Int × Int × Int × List (List Int)) × (Bool × Bool) × List UInt8) ↦ (LQ.r5_Pack.l1 (r, (C : Int), (W : Int), pl, u) (i : Int) d.fst d.snd.fst d.snd.snd.fst d.snd.snd.snd).run)
    (fun k => ((k : Int), (r, (C : Int), (W : Int), pl), (big, uns), buf ++ (pl.take k).flatMap fun l => smpB big (numU uns W (l.getD i 0)) (bwN W))) (r := ((r, (C : Int), (W : Int), pl), (big, uns), buf ++ rowV big uns W pl i)) pl.length ?_ ?_
  · simpa using this
  · intro k hk
    simp only [LQ.r5_Pack.l1]
    have hlen := okPl_len hok k hk
    have hin := okPl_in hok k i hk hi
    have h2 := inW_iff hin
    have hnu := numU_lt uns h hin
    have hf := flatMap_le (pl.take k) (fun l => smpB big (numU uns W (l.getD i 0)) (bwN W)) (bwN W) (fun l => by rw [smpB_len]; omega)
    have hf2 : (pl.take k).length * bwN W ≤ 8 * 4 := Nat.mul_le_mul (by rw [List.length_take]; omega) (by omega)
    have h256 : 256 ^ bwN W ≤ 256 ^ 4 := pow256_le (by omega)
    rw [Tr.run_br, decide_eq_true (by omega), cond_true, Tr.run_need _ (by simp only [Int.ofNat_eq_natCast]; omega), Int.toNat_natCast, Tr.run_need _ (by simp only [Int.ofNat_eq_natCast]; omega), Int.toNat_natCast, tdiv8 h, w64_id (x := (W : Int) - 1) (by omega), u64_id (x := (W : Int) - 1) (by omega), w64_id (x := 8 * ((bwN W : Nat) : Int)) (by omega), u64_id (by omega), Tr.run_bind, Tr.run_br, Tr.run_need _ (by omega), p2_half (by omega), Int.one_mul, w64_id (x := half W) (by omega), w64_id (by omega), Tr.run_ret, Tr.run_bind, Tr.run_br, Tr.run_need _ (by omega), show (8 * ((bwN W : Nat) : Int)) = ((8 * bwN W : Nat) : Int) by omega, p2_8 _ (by omega), Int.one_mul, w64_id (x := ((256 ^ bwN W : Nat) : Int)) (by omega), w64_id (x := (pl.getD k []).getD i 0 + ((256 ^ bwN W : Nat) : Int)) (by omega), Tr.run_ret, Tr.run_ret]
    have e : (bif uns then some ((pl.getD k []).getD i 0 + half W, (r, (C : Int), (W : Int), pl), (big, uns), buf ++ (pl.take k).flatMap fun l => smpB big (numU uns W (l.getD i 0)) (bwN W)) else
        Option.bind (bif decide ((pl.getD k []).getD i 0 < 0) then some ((pl.getD k []).getD i 0 + ((256 ^ bwN W : Nat) : Int), (r, (C : Int), (W : Int), pl), (big, uns), buf ++ (pl.take k).flatMap fun l => smpB big (numU uns W (l.getD i 0)) (bwN W)) else some ((pl.getD k []).getD i 0, (r, (C : Int), (W : Int), pl), (big, uns), buf ++ (pl.take k).flatMap fun l => smpB big (numU uns W (l.getD i 0)) (bwN W)))
          fun b => some b)
      = some (((numU uns W ((pl.getD k []).getD i 0) : Nat) : Int), (r, (C : Int), (W : Int), pl), (big, uns), buf ++ (pl.take k).flatMap fun l => smpB big (numU uns W (l.getD i 0)) (bwN W)) := by
      cases uns with
      | true => simp only [cond_true, numU]; rw [Int.toNat_of_nonneg (by omega)]
      | false =>
        simp only [cond_false, numU]
        by_cases hneg : (pl.getD k []).getD i 0 < 0
        · rw [decide_eq_true hneg, cond_true, Option.bind_some, ← Int.add_emod_right, Int.emod_eq_of_lt (by omega) (by omega), Int.toNat_of_nonneg (by omega)]
        · rw [decide_eq_false hneg, cond_false, Option.bind_some, Int.emod_eq_of_lt (by omega) (by omega), Int.toNat_of_nonneg (by omega)]
    refine (congrArg (fun o => Option.bind o _) e).trans ?_
    rw [Option.bind_some, Tr.run_bind]
    simp only []
    rw [Le_eq _ _ (by omega) (by omega) (by omega) (fun _ => hnu), Option.bind_some, Tr.run_bind, Tr.run_br, Tr.run_bind, Be_eq _ _ (by omega) (by omega) (by omega) (fun _ => hnu), Option.bind_some, Tr.run_ret, Tr.run_ret, smpB_be, smpB_le]
    have e2 : (bif big then some (smpB true (numU uns W ((pl.getD k []).getD i 0)) (bwN W), (r, (C : Int), (W : Int), pl), (big, uns), buf ++ (pl.take k).flatMap fun l => smpB big (numU uns W (l.getD i 0)) (bwN W)) else some (smpB false (numU uns W ((pl.getD k []).getD i 0)) (bwN W), (r, (C : Int), (W : Int), pl), (big, uns), buf ++ (pl.take k).flatMap fun l => smpB big (numU uns W (l.getD i 0)) (bwN W)))
       = some (smpB big (numU uns W ((pl.getD k []).getD i 0)) (bwN W), (r, (C : Int), (W : Int), pl), (big, uns), buf ++ (pl.take k).flatMap fun l => smpB big (numU uns W (l.getD i 0)) (bwN W)) := by cases big <;> rfl
    refine (congrArg (fun o => Option.bind o _) e2).trans ?_
    rw [Option.bind_some, Tr.run_need _ (by simp only [List.length_append, smpB_len]; omega), Tr.run_ret, w64_id (by omega), flat_succ pl [] _ k hk, List.append_assoc]
    rfl
  · simp only [LQ.r5_Pack.l1]
    rw [Tr.run_br, decide_eq_false (by omega), cond_false, Tr.run_ret, List.take_length]
    rfl
theorem rPack_eq (r c w : Int) (pl : List (List Int)) (big uns : Bool) (hl : PB pl) : LQ.r5_Pack (r, c, w, pl, ()) (big, uns, ()) = some (bif pcmOk r c w pl then (packV big uns w.toNat pl, 0) else ([], 50)) := by
  unfold LQ.r5_Pack LQ.r5_Pack.t
  have hn0 := hl.n2 0
  simp only [Tr.run_bind, rCheck_eq r c w pl hl, Option.bind_some, Tr.run_br, chk]
  cases hp : pcmOk r c w pl with
  | false => rfl
  | true =>
    obtain ⟨W, C, rfl, rfl, h1, h2, h3, h4, h5, h6, h7, h8⟩ := pcmOk_parts hp
    simp only [cond_true]
    rw [show ((0 : Int) != 0) = false from rfl, cond_false]
    have := loopO_steps (f := fun (d : Int × (Int × Int × Int × List (List Int)) × (Bool × Bool) × List UInt8) ↦ (LQ.r5_Pack.l0 (r, (C : Int), (W : Int), pl, ()) d.fst d.snd.fst d.snd.snd.fst d.snd.snd.snd).run)
      (fun i => ((i : Int), (r, (C : Int), (W : Int), pl), (big, uns), (List.range i).flatMap (rowV big uns W pl))) (r := packV big uns W pl) (pl.getD 0 []).length ?_ ?_
    · refine (congrArg (fun o => Option.bind o _) this).trans ?_
      rfl
    · intro i hi
      simp only [LQ.r5_Pack.l0]
      have hf := rows_le big uns W pl i ⟨h1, h2⟩ (by omega)
      rw [Tr.run_bind, rLen_eq, Option.bind_some, Tr.run_br, decide_eq_true (by unfold lenV; omega), cond_true, Tr.run_bind]
      refine (congrArg (fun o => Option.bind o _) (rpack_l1 r C W pl () big uns i _ ⟨h1, h2⟩ h8 hi h5 (by omega) (by omega))).trans ?_
      rw [Option.bind_some, Tr.run_ret, w64_id (by omega), flat_range]
      rfl
    · simp only [LQ.r5_Pack.l0]
      rw [Tr.run_bind, rLen_eq, Option.bind_some, Tr.run_br, decide_eq_false (by unfold lenV; omega), cond_false, Tr.run_ret]
      rfl
end Go.Proofs.Ytfblaicifdgfiaa.Dg
end

section
set_option linter.unusedVariables false
set_option linter.unusedSimpArgs false
namespace Go.LM
theorem or_split (a b i : Nat) (hb : b < 2 ^ i) (h : a * 2 ^ i + b < 9223372036854775808) : bitsI Go.BinOp.or Go.IntKind.i64 ((a * 2 ^ i : Nat) : Int) (b : Int) = ((a * 2 ^ i + b : Nat) : Int) := by
  unfold bitsI
  simp only [BitVec.ofInt_natCast, BitVec.toNat_or, BitVec.toNat_ofNat]
  rw [show IntKind.bits .i64 = 64 from rfl, Nat.mod_eq_of_lt (a := a * 2 ^ i) (by omega), Nat.mod_eq_of_lt (a := b) (by omega)]
  have := Nat.shiftLeft_add_eq_or_of_lt hb a
  rw [Nat.shiftLeft_eq] at this
  rw [this]
theorem or_comm' (x y : Int) : bitsI Go.BinOp.or Go.IntKind.i64 x y = bitsI Go.BinOp.or Go.IntKind.i64 y x := by
  unfold bitsI; simp only [BitVec.or_comm]
def rawV (big : Bool) (t : List UInt8) : Nat := bif big then beV t else leV t
def smpV (big uns : Bool) (W : Nat) (t : List UInt8) : Int :=
  bif uns then (rawV big t : Int) - half W else bif decide (2 * rawV big t ≥ 256 ^ bwN W) then (rawV big t : Int) - ((256 ^ bwN W : Nat) : Int) else (rawV big t : Int)
theorem rawV_lt (big : Bool) (t : List UInt8) : rawV big t < 256 ^ t.length := by
  cases big
  · exact leV_lt t
  · exact beV_lt t
theorem leV_append (a b : List UInt8) : leV (a ++ b) = leV a + 256 ^ a.length * leV b := by
  induction a with
  | nil => simp [leV]
  | cons x a ih =>
    simp only [List.cons_append, leV, ih, List.length_cons, Nat.pow_succ, Nat.mul_add, Nat.add_assoc]
    rw [Nat.mul_comm (256 ^ a.length) 256, Nat.mul_assoc]
theorem leV_take (s : List UInt8) (k : Nat) (h : k < s.length) : leV (s.take (k + 1)) = leV (s.take k) + 256 ^ k * (s.getD k 0).toNat := by
  rw [List.take_succ_eq_append_getElem h, leV_append, getD_lt _ _ h, List.length_take, Nat.min_eq_left (by omega)]
  simp only [leV]; rfl
def upV (xs : Nat → Int) (C : Nat) : Nat → List (List Int)
  | 0 => List.replicate C []
  | j + 1 => (upV xs C j).set (j % C) ((upV xs C j).getD (j % C) [] ++ [xs j])
theorem upV_len (xs : Nat → Int) (C : Nat) : ∀ j, (upV xs C j).length = C
  | 0 => by simp [upV]
  | j + 1 => by simp [upV, upV_len xs C j]
theorem getD_set {α : Type} (l : List α) (i : Nat) (x z : α) (k : Nat) : (l.set i x).getD k z = if i = k ∧ i < l.length then x else l.getD k z := by
  rw [List.getD_eq_getElem?_getD, List.getD_eq_getElem?_getD, List.getElem?_set]
  by_cases h : i = k
  · subst h
    by_cases h2 : i < l.length
    · simp [h2]
    · simp [h2]
  · simp [h]
theorem upV_pl (xs : Nat → Int) (C : Nat) : ∀ j k, ((upV xs C j).getD k []).length ≤ j
  | 0, k => by
    rw [upV]
    by_cases h : k < C <;> simp [List.getD_eq_getElem?_getD, List.getElem?_replicate, h]
  | j + 1, k => by
    have h1 := upV_pl xs C j k
    have h2 := upV_pl xs C j (j % C)
    rw [upV, getD_set]
    split
    · rw [List.length_append, List.length_singleton]; omega
    · omega
def xsV (big uns : Bool) (W : Nat) (s : List UInt8) (j : Nat) : Int := smpV big uns W ((s.drop (j * bwN W)).take (bwN W))
def zPcm : Int × Int × Int × List (List Int) × PUnit := (0, 0, 0, [], ())
def unpV (big uns : Bool) (r : Int) (C W N : Nat) (s : List UInt8) : (Int × Int × Int × List (List Int) × PUnit) × Int :=
  bif (List.range N).all (fun j => inW W (xsV big uns W s j)) then ((r, (C : Int), (W : Int), upV (xsV big uns W s) C N, ()), 0) else (zPcm, 2)
end Go.LM
namespace Go.Proofs.Ytfblaicifdgfiaa.Dg
open Go.LM
theorem sample_eq (s : List UInt8) (W : Nat) (big uns : Bool) (h : 4 ≤ W ∧ W ≤ 32) (hs : s.length = bwN W) : LQ.pcm_sample s W (big, uns, ()) = some (smpV big uns W s) := by
  have hw := bwN_bd h
  have hh := half_bd (w := (W : Int)) (by omega)
  unfold LQ.pcm_sample LQ.pcm_sample.t
  rw [Tr.run_bind]
  have := loopO_steps (f := fun (d : Int × Int × Bool × Bool) ↦ (LQ.pcm_sample.l0 s d.fst d.snd.fst d.snd.snd.fst d.snd.snd.snd).run) (fun k => (((rawV big (s.take k) : Nat) : Int), (k : Int), big, uns)) (r := (((rawV big s : Nat) : Int), big, uns)) s.length ?_ ?_
  · have e0 : rawV big (s.take 0) = 0 := by cases big <;> rfl
    simp only [e0] at this
    refine (congrArg (fun o => Option.bind o _) this).trans ?_
    have hr := rawV_lt big s
    rw [hs] at hr
    unfold smpV
    rw [Option.bind_some, Tr.run_br]
    have h256 : 256 ^ bwN W ≤ 256 ^ 4 := pow256_le (by omega)
    cases uns with
    | true => rw [cond_true, w64_id (x := (W : Int) - 1) (by omega), Tr.run_need _ (by omega), Tr.run_ret, p2_half (by omega), Int.one_mul, w64_id (x := half W) (by omega), w64_id (by omega)]; rfl
    | false =>
      rw [cond_false, hs]
      simp only [Int.ofNat_eq_natCast, cond_false]
      rw [w64_id (x := 8 * ((bwN W : Nat) : Int)) (by omega), w64_id (x := 64 - 8 * ((bwN W : Nat) : Int)) (by omega), Tr.run_need _ (by omega), Tr.run_need _ (by omega), Tr.run_ret]
      congr 1
      rw [show (64 - 8 * ((bwN W : Nat) : Int)) = ((8 * (8 - bwN W) : Nat) : Int) by omega, p2_8 _ (by omega)]
      generalize rawV big s = v at hr ⊢
      show IntKind.i64.wrap _ / _ = _
      rw [IntKind.wrap_i64]
      have hB : bwN W = 1 ∨ bwN W = 2 ∨ bwN W = 3 ∨ bwN W = 4 := by omega
      by_cases hv : 2 * v ≥ 256 ^ bwN W
      · rw [decide_eq_true hv, cond_true]
        rcases hB with hB | hB | hB | hB <;> rw [hB] at hr hv ⊢ <;> simp only [Nat.reducePow, Nat.reduceSub, Int.cast_ofNat_Int] at hr hv ⊢ <;> omega
      · rw [decide_eq_false hv, cond_false]
        rcases hB with hB | hB | hB | hB <;> rw [hB] at hr hv ⊢ <;> simp only [Nat.reducePow, Nat.reduceSub, Int.cast_ofNat_Int] at hr hv ⊢ <;> omega
  · intro k hk
    have hr := rawV_lt big (s.take k)
    have hb := (s.getD k 0).toNat_lt
    rw [List.length_take, Nat.min_eq_left (by omega)] at hr
    have h3 : 256 ^ k ≤ 256 ^ 3 := pow256_le (by omega)
    simp only [LQ.pcm_sample.l0]
    rw [Tr.run_br, decide_eq_true (by simp only [Int.ofNat_eq_natCast]; omega), cond_true, Tr.run_bind, Tr.run_br, Tr.run_need _ (by simp only [Int.ofNat_eq_natCast]; omega), Tr.run_need _ (by simp only [Int.ofNat_eq_natCast]; omega), w64_id (x := 8 * (k : Int)) (by omega), Tr.run_need _ (by omega), Tr.run_ret, Tr.run_ret, Int.toNat_natCast]
    simp only [Int.ofNat_eq_natCast]
    rw [w64_id (x := ((s.getD k 0).toNat : Int)) (by omega), w64_id (x := ((rawV big (s.take k) : Nat) : Int) * 256) (by omega)]
    rw [show (8 * (k : Int)) = ((8 * k : Nat) : Int) by omega, p2_8 k (by omega), ← Int.natCast_mul]
    cases big with
    | true =>
      rw [cond_true, show ((rawV true (s.take k) : Nat) : Int) * 256 = ((rawV true (s.take k) * 2 ^ 8 : Nat) : Int) by omega, or_split _ _ 8 (by omega) (by omega), w64_id (by omega), Option.bind_some, Tr.run_ret, w64_id (x := (k : Int) + 1) (by omega)]
      rw [show rawV true (s.take (k + 1)) = rawV true (s.take k) * 2 ^ 8 + (s.getD k 0).toNat from by
        show beV _ = beV _ * _ + _
        rw [beV_take s k (by omega)]]
      rfl
    | false =>
      have hm : (s.getD k 0).toNat * 256 ^ k ≤ 255 * 256 ^ 3 := Nat.mul_le_mul (by omega) h3
      have e2 : 256 ^ k = 2 ^ (8 * k) := by rw [Nat.pow_mul]
      rw [cond_false, w64_id (x := (((s.getD k 0).toNat * 256 ^ k : Nat) : Int)) (by omega), or_comm', e2, or_split _ _ (8 * k) (by rw [← e2]; exact hr) (by rw [← e2]; omega), w64_id (by rw [← e2]; omega), Option.bind_some, Tr.run_ret, w64_id (x := (k : Int) + 1) (by omega)]
      rw [show rawV false (s.take (k + 1)) = (s.getD k 0).toNat * 2 ^ (8 * k) + rawV false (s.take k) from by
        show leV _ = _ + leV _
        rw [leV_take s k (by omega), e2, Nat.mul_comm, Nat.add_comm]]
      rfl
  · simp only [LQ.pcm_sample.l0]
    rw [Tr.run_br, decide_eq_false (by simp only [Int.ofNat_eq_natCast]; omega), cond_false, Tr.run_ret, List.take_length]
theorem smpV_bd (big uns : Bool) {W : Nat} (t : List UInt8) (h : 4 ≤ W ∧ W ≤ 32) (ht : t.length = bwN W) : -4294967296 ≤ smpV big uns W t ∧ smpV big uns W t < 4294967296 := by
  have hw := bwN_bd h
  have hh := half_bd (w := (W : Int)) (by omega)
  have hr := rawV_lt big t
  rw [ht] at hr
  have h256 : 256 ^ bwN W ≤ 256 ^ 4 := pow256_le (by omega)
  unfold smpV
  cases uns with
  | true => rw [cond_true]; omega
  | false =>
    rw [cond_false]
    by_cases hv : 2 * rawV big t ≥ 256 ^ bwN W
    · rw [decide_eq_true hv, cond_true]; omega
    · rw [decide_eq_false hv, cond_false]; omega
theorem unp_l0 (s : List UInt8) (C W q : Nat) (a : Bool × Bool) (b c : Int × Int × Int) (h : 4 ≤ W ∧ W ≤ 32) (hC : 1 ≤ C ∧ C ≤ 8) (hs : s.length = q * C * bwN W) (hq : q ≤ 1048576) :
    loopO (fun (d : Int × (Bool × Bool) × (Int × Int × Int) × (Int × Int × Int) × List (List Int)) ↦ (LQ.pcm_Unpack.l0 s (C : Int) (W : Int) d.fst d.snd.fst d.snd.snd.fst d.snd.snd.snd.fst d.snd.snd.snd.snd).run) ((0 : Int), a, b, c, [])
      = some (a, b, c, List.replicate C []) := by
  have hw := bwN_bd h
  have hm : bwN W * C ≤ 4 * 8 := Nat.mul_le_mul (by omega) hC.2
  have hp : 1 ≤ bwN W * C := Nat.mul_le_mul hw.1 hC.1
  have hd : s.length / (bwN W * C) = q := by rw [hs, Nat.mul_assoc, Nat.mul_comm C, Nat.mul_div_cancel _ (by omega)]
  have hd' : (Int.ofNat s.length).tdiv (((bwN W * C : Nat) : Int)) = (q : Int) := by
    rw [Int.tdiv_eq_ediv_of_nonneg (by simp only [Int.ofNat_eq_natCast]; omega), Int.ofNat_eq_natCast, ← Int.natCast_ediv, hd]
  have := loopO_steps (f := fun (d : Int × (Bool × Bool) × (Int × Int × Int) × (Int × Int × Int) × List (List Int)) ↦ (LQ.pcm_Unpack.l0 s (C : Int) (W : Int) d.fst d.snd.fst d.snd.snd.fst d.snd.snd.snd.fst d.snd.snd.snd.snd).run)
    (fun k => ((k : Int), a, b, c, List.replicate k [])) (r := (a, b, c, List.replicate C [])) C ?_ ?_
  · simpa using this
  · intro k hk
    simp only [LQ.pcm_Unpack.l0]
    rw [tdiv8 h, ← Int.natCast_mul, w64_id (x := ((bwN W * C : Nat) : Int)) (by omega), hd', w64_id (x := (q : Int)) (by omega), Tr.run_br, decide_eq_true (by omega), cond_true, Tr.run_need _ (by omega), Tr.run_need _ (by rw [List.length_replicate]; omega), Tr.run_ret, w64_id (by omega), ← List.replicate_succ']
    rfl
  · simp only [LQ.pcm_Unpack.l0]
    rw [Tr.run_br, decide_eq_false (by omega), cond_false, Tr.run_ret]
theorem piece (s : List UInt8) (W j N : Nat) (h : 4 ≤ W ∧ W ≤ 32) (hs : s.length = N * bwN W) (hj : j < N) : j * bwN W + bwN W ≤ s.length ∧ ((s.drop (j * bwN W)).take (bwN W)).length = bwN W := by
  have h1 : (j + 1) * bwN W ≤ N * bwN W := Nat.mul_le_mul_right _ hj
  rw [Nat.succ_mul] at h1
  refine ⟨by omega, ?_⟩
  rw [List.length_take, List.length_drop]; omega
theorem unp_l1 (s : List UInt8) (C W N : Nat) (big uns : Bool) (b c : Int × Int × Int) (h : 4 ≤ W ∧ W ≤ 32) (hC : 1 ≤ C ∧ C ≤ 8) (hs : s.length = N * bwN W) (hN : N ≤ 8388608) :
    loopO (fun (d : Int × (Bool × Bool) × (Int × Int × Int) × (Int × Int × Int) × List (List Int)) ↦ (LQ.pcm_Unpack.l1 s (C : Int) (W : Int) d.fst d.snd.fst d.snd.snd.fst d.snd.snd.snd.fst d.snd.snd.snd.snd).run) ((0 : Int), (big, uns), b, c, List.replicate C [])
      = some (bif (List.range N).all (fun j => inW W (xsV big uns W s j)) then .inr (b, c, upV (xsV big uns W s) C N) else .inl (2, 0, 0, 0)) := by
  have hw := bwN_bd h
  have hL : N * bwN W ≤ 8388608 * 4 := Nat.mul_le_mul hN (by omega)
  have := loopO_all (f := fun (d : Int × (Bool × Bool) × (Int × Int × Int) × (Int × Int × Int) × List (List Int)) ↦ (LQ.pcm_Unpack.l1 s (C : Int) (W : Int) d.fst d.snd.fst d.snd.snd.fst d.snd.snd.snd.fst d.snd.snd.snd.snd).run)
    (fun j => (((j * bwN W : Nat) : Int), (big, uns), b, c, upV (xsV big uns W s) C j)) (fun j => inW W (xsV big uns W s j)) (.inl (2, 0, 0, 0)) (.inr (b, c, upV (xsV big uns W s) C N)) N N 0 (by omega) ?_ ?_
  · simpa [upV] using this
  · intro j _ hj
    obtain ⟨h1, h2⟩ := piece s W j N h hs hj
    simp only [LQ.pcm_Unpack.l1]
    rw [tdiv8 h, w64_id (x := ((j * bwN W : Nat) : Int) + ((bwN W : Nat) : Int)) (by omega), Tr.run_br, decide_eq_true (by simp only [Int.ofNat_eq_natCast]; omega), cond_true, Tr.run_need _ (by simp only [Int.ofNat_eq_natCast]; omega), Tr.run_bind, show (((j * bwN W : Nat) : Int) + ((bwN W : Nat) : Int) - ((j * bwN W : Nat) : Int)).toNat = bwN W by omega, Int.toNat_natCast, sample_eq _ W big uns h h2, Option.bind_some, Tr.run_bind]
    have hx := smpV_bd big uns _ h h2
    rw [in_eq _ _ (by omega) (by omega), Option.bind_some, Tr.run_br]
    show (bif !(inW W (xsV big uns W s j)) then _ else _) = _
    cases inW W (xsV big uns W s j) with
    | false => rfl
    | true =>
      have hdv : (((j * bwN W : Nat) : Int)).tdiv ((bwN W : Nat) : Int) = (j : Int) := by
        rw [Int.tdiv_eq_ediv_of_nonneg (by omega), ← Int.natCast_ediv, Nat.mul_div_cancel _ (by omega)]
      have hj2 : j < 8388608 := by omega
      have hmd : ((j : Int)).tmod (C : Int) = ((j % C : Nat) : Int) := by rw [Int.tmod_eq_emod_of_nonneg (by omega), Int.natCast_emod]
      have hlt := Nat.mod_lt j (show C > 0 by omega)
      have hpl := upV_pl (xsV big uns W s) C j (j % C)
      rw [Bool.not_true, cond_false, Tr.run_need _ (by omega), Tr.run_need _ (by omega), hdv, w64_id (x := (j : Int)) (by omega), hmd, Tr.run_need _ (by rw [upV_len]; simp only [Int.ofNat_eq_natCast]; omega), Int.toNat_natCast, Tr.run_need _ (by rw [List.length_set, List.length_replicate]; omega), Tr.run_need _ (by rw [upV_len]; simp only [Int.ofNat_eq_natCast]; omega), Tr.run_need _ trivial, Tr.run_ret, cond_true, show ((j * bwN W : Nat) : Int) + ((bwN W : Nat) : Int) = (((j + 1) * bwN W : Nat) : Int) by rw [Nat.succ_mul]; omega]
      rfl
  · simp only [LQ.pcm_Unpack.l1]
    rw [Tr.run_br, decide_eq_false (by simp only [Int.ofNat_eq_natCast]; omega), cond_false, Tr.run_ret]
theorem lenq (s : List UInt8) (C W : Nat) (h : 4 ≤ W ∧ W ≤ 32) (hC : 1 ≤ C ∧ C ≤ 8) (hL : s.length ≤ 67108864) :
    (Int.ofNat s.length).tdiv (w64 (w64 ((w64 ((W : Int) + 7)).tdiv 8) * (C : Int))) = ((s.length / (bwN W * C) : Nat) : Int) ∧ (Int.ofNat s.length).tmod (w64 (w64 ((w64 ((W : Int) + 7)).tdiv 8) * (C : Int))) = ((s.length % (bwN W * C) : Nat) : Int) ∧ w64 (w64 ((w64 ((W : Int) + 7)).tdiv 8) * (C : Int)) = ((bwN W * C : Nat) : Int) ∧ 1 ≤ bwN W * C := by
  have hw := bwN_bd h
  have hm : bwN W * C ≤ 4 * 8 := Nat.mul_le_mul (by omega) hC.2
  have hp : 1 ≤ bwN W * C := Nat.mul_le_mul hw.1 hC.1
  rw [tdiv8 h, ← Int.natCast_mul, w64_id (x := ((bwN W * C : Nat) : Int)) (by omega)]
  refine ⟨?_, ?_, rfl, hp⟩
  · rw [Int.tdiv_eq_ediv_of_nonneg (by simp only [Int.ofNat_eq_natCast]; omega), Int.ofNat_eq_natCast, Int.natCast_ediv]
  · rw [Int.tmod_eq_emod_of_nonneg (by simp only [Int.ofNat_eq_natCast]; omega), Int.ofNat_eq_natCast, Int.natCast_emod]
theorem Unpack_ok (s : List UInt8) (r : Int) (C W q : Nat) (big uns : Bool) (hk : okKind r C W = true) (hs : s.length = q * C * bwN W) (hq : q ≤ 1048576) : LQ.pcm_Unpack s r C W (big, uns, ()) = some (unpV big uns r C W (q * C) s) := by
  have hb := okKind_iff hk
  have hw := bwN_bd (W := W) (by omega)
  have hN : q * C ≤ 1048576 * 8 := Nat.mul_le_mul hq (by omega)
  have hL : q * C * bwN W ≤ 8388608 * 4 := Nat.mul_le_mul hN (by omega)
  obtain ⟨h1, h2, h3, h4⟩ := lenq s C W (by omega) (by omega) (by omega)
  have hd : s.length / (bwN W * C) = q := by rw [hs, Nat.mul_assoc, Nat.mul_comm C, Nat.mul_div_cancel _ (by omega)]
  unfold LQ.pcm_Unpack LQ.pcm_Unpack.t
  rw [Tr.run_bind, kind_eq, hk, Option.bind_some, Tr.run_br, Bool.not_true, cond_false, Tr.run_need _ (by rw [h3]; omega), h1, hd]
  have e4 : q * bwN W ≤ q * bwN W * C := Nat.le_mul_of_pos_right _ (by omega)
  have e5 : q * bwN W * C = s.length := by rw [hs, Nat.mul_assoc, Nat.mul_comm (bwN W), Nat.mul_assoc]
  rw [tdiv8 (W := W) (by omega), w64_id (x := (q : Int)) (by omega), ← Int.natCast_mul, w64_id (x := ((q * bwN W : Nat) : Int)) (by omega), ← Int.natCast_mul, w64_id (x := ((q * bwN W * C : Nat) : Int)) (by omega), Tr.run_br, e5]
  rw [show (((s.length : Nat) : Int) != Int.ofNat s.length) = false by simp, cond_false, Tr.run_br, decide_eq_false (by omega), cond_false, Tr.run_bind]
  refine (congrArg (fun o => Option.bind o _) (unp_l0 s C W q _ _ _ (by omega) (by omega) hs hq)).trans ?_
  rw [Option.bind_some, Tr.run_bind]
  refine (congrArg (fun o => Option.bind o _) (unp_l1 s C W (q * C) _ _ _ _ (by omega) (by omega) hs (by omega))).trans ?_
  unfold unpV
  cases (List.range (q * C)).all (fun j => inW W (xsV big uns W s j)) <;> rfl
end Go.Proofs.Ytfblaicifdgfiaa.Dg
end

section
set_option linter.unusedVariables false
set_option linter.unusedSimpArgs false
namespace Go.Proofs.Ytfblaicifdgfiaa.Dg
open Go.LM
theorem runp_loop (s : List UInt8) (C W N : Nat) (big uns : Bool) (b c : Int × Int × Int) (h : 4 ≤ W ∧ W ≤ 32) (hC : 1 ≤ C ∧ C ≤ 8) (hs : s.length = N * bwN W) (hN : N ≤ 8388608) :
    loopO (fun (d : Int × (Bool × Bool) × (Int × Int × Int) × (Int × Int × Int) × List (List Int)) ↦ (LQ.r5_Unpack.l0 s (C : Int) (W : Int) d.fst d.snd.fst d.snd.snd.fst d.snd.snd.snd.fst d.snd.snd.snd.snd).run) ((0 : Int), (big, uns), b, c, List.replicate C [])
      = some (bif (List.range N).all (fun j => inW W (xsV big uns W s j)) then .inr (b, c, upV (xsV big uns W s) C N) else .inl (2, 0, 0, 0)) := by
  have hw := bwN_bd h
  have hh := half_bd (w := (W : Int)) (by omega)
  have hL : N * bwN W ≤ 8388608 * 4 := Nat.mul_le_mul hN (by omega)
  have hq : w64 ((Int.ofNat s.length).tdiv ((bwN W : Nat) : Int)) = (N : Int) := by
    rw [Int.tdiv_eq_ediv_of_nonneg (by simp only [Int.ofNat_eq_natCast]; omega), Int.ofNat_eq_natCast, ← Int.natCast_ediv, hs, Nat.mul_div_cancel _ (by omega), w64_id (by omega)]
  have := loopO_all (f := fun (d : Int × (Bool × Bool) × (Int × Int × Int) × (Int × Int × Int) × List (List Int)) ↦ (LQ.r5_Unpack.l0 s (C : Int) (W : Int) d.fst d.snd.fst d.snd.snd.fst d.snd.snd.snd.fst d.snd.snd.snd.snd).run)
    (fun j => ((j : Int), (big, uns), b, c, upV (xsV big uns W s) C j)) (fun j => inW W (xsV big uns W s j)) (.inl (2, 0, 0, 0)) (.inr (b, c, upV (xsV big uns W s) C N)) N N 0 (by omega) ?_ ?_
  · simpa [upV] using this
  · intro j _ hj
    obtain ⟨h1, h2⟩ := piece s W j N h hs hj
    simp only [LQ.r5_Unpack.l0]
    rw [tdiv8 h, Tr.run_need _ (by omega), hq, Tr.run_br, decide_eq_true (by omega), cond_true, ← Int.natCast_mul, w64_id (x := ((j * bwN W : Nat) : Int)) (by omega), w64_id (x := ((j * bwN W : Nat) : Int) + ((bwN W : Nat) : Int)) (by omega), Tr.run_need _ (by simp only [Int.ofNat_eq_natCast]; omega), Tr.run_bind, show (((j * bwN W : Nat) : Int) + ((bwN W : Nat) : Int) - ((j * bwN W : Nat) : Int)).toNat = bwN W by omega, Int.toNat_natCast]
    have hx := smpV_bd big uns _ h h2
    have hX : xsV big uns W s j = smpV big uns W ((s.drop (j * bwN W)).take (bwN W)) := rfl
    rw [hX]
    generalize hT : (s.drop (j * bwN W)).take (bwN W) = t at h2 hx ⊢
    have hr := rawV_lt big t
    rw [h2] at hr
    have h256 : 256 ^ bwN W ≤ 256 ^ 4 := pow256_le (by omega)
    rw [FromLe_eq t (by omega), Option.bind_some, Tr.run_bind, Tr.run_br, Tr.run_bind, FromBe_eq t (by omega), Option.bind_some, Tr.run_ret, Tr.run_ret]
    have e1 : (bif big then some (((beV t : Nat) : Int), (big, uns), b, c, upV (xsV big uns W s) C j) else some (((leV t : Nat) : Int), (big, uns), b, c, upV (xsV big uns W s) C j)) = some (((rawV big t : Nat) : Int), (big, uns), b, c, upV (xsV big uns W s) C j) := by cases big <;> rfl
    refine (congrArg (fun o => Option.bind o _) e1).trans ?_
    rw [Option.bind_some, Tr.run_bind, Tr.run_br, w64_id (x := (W : Int) - 1) (by omega), u64_id (x := (W : Int) - 1) (by omega), Tr.run_need _ (by omega), p2_half (by omega), Int.one_mul, w64_id (x := half W) (by omega)]
    simp only []
    rw [w64_id (x := ((rawV big t : Nat) : Int) - half W) (by omega), Tr.run_ret, w64_id (x := 8 * ((bwN W : Nat) : Int)) (by omega), w64_id (x := 8 * ((bwN W : Nat) : Int) - 1) (by omega), u64_id (x := 8 * ((bwN W : Nat) : Int) - 1) (by omega), u64_id (x := 8 * ((bwN W : Nat) : Int)) (by omega), Tr.run_need _ (by omega), Tr.run_bind, Tr.run_br, Tr.run_need _ (by omega), show (8 * ((bwN W : Nat) : Int)) = ((8 * bwN W : Nat) : Int) by omega, p2_8 _ (by omega), Int.one_mul, Int.one_mul, w64_id (x := ((256 ^ bwN W : Nat) : Int)) (by omega), w64_id (x := ((rawV big t : Nat) : Int) - ((256 ^ bwN W : Nat) : Int)) (by omega), Tr.run_ret, Tr.run_ret]
    have hp : 2 * p2 (((8 * bwN W : Nat) : Int) - 1) 64 = ((256 ^ bwN W : Nat) : Int) := by
      unfold p2
      rw [show (((8 * bwN W : Nat) : Int) - 1).toNat = 8 * bwN W - 1 by omega, Nat.min_eq_left (by omega)]
      have : 2 * 2 ^ (8 * bwN W - 1) = 256 ^ bwN W := by rw [← Nat.pow_succ', show (8 * bwN W - 1).succ = 8 * bwN W by omega, Nat.pow_mul]
      omega
    have hd : decide (((rawV big t : Nat) : Int) ≥ w64 (p2 (((8 * bwN W : Nat) : Int) - 1) 64)) = decide (2 * rawV big t ≥ 256 ^ bwN W) := by
      rw [w64_id (by omega), decide_eq_decide]; omega
    rw [hd]
    have e2 : (bif uns then some (((rawV big t : Nat) : Int) - half W, (big, uns), b, c, upV (xsV big uns W s) C j) else Option.bind (bif decide (2 * rawV big t ≥ 256 ^ bwN W) then some (((rawV big t : Nat) : Int) - ((256 ^ bwN W : Nat) : Int), (big, uns), b, c, upV (xsV big uns W s) C j) else some (((rawV big t : Nat) : Int), (big, uns), b, c, upV (xsV big uns W s) C j)) fun b => some b)
        = some (smpV big uns W t, (big, uns), b, c, upV (xsV big uns W s) C j) := by
      unfold smpV
      cases uns with
      | true => rfl
      | false => cases decide (2 * rawV big t ≥ 256 ^ bwN W) <;> rfl
    refine (congrArg (fun o => Option.bind o _) e2).trans ?_
    rw [Option.bind_some, Tr.run_bind, Sample_eq _ _ (by omega), Option.bind_some, Tr.run_br]
    show (bif !(inW W (smpV big uns W t)) then _ else _) = _
    cases inW W (smpV big uns W t) with
    | false => rfl
    | true =>
      have hj2 : j < 8388608 := by omega
      have hmd : ((j : Int)).tmod (C : Int) = ((j % C : Nat) : Int) := by rw [Int.tmod_eq_emod_of_nonneg (by omega), Int.natCast_emod]
      have hlt := Nat.mod_lt j (show C > 0 by omega)
      have hpl := upV_pl (xsV big uns W s) C j (j % C)
      rw [Bool.not_true, cond_false, Tr.run_need _ (by omega), Tr.run_need _ (by omega), hmd, Tr.run_need _ (by simp only [upV_len, Int.ofNat_eq_natCast]; omega), Int.toNat_natCast, Tr.run_need _ (by rw [List.length_set, List.length_replicate]; simp only []; omega), Tr.run_need _ (by simp only [upV_len, Int.ofNat_eq_natCast]; omega), Tr.run_need _ trivial, Tr.run_ret, cond_true, w64_id (by omega)]
      rw [upV, hX, hT]
      rfl
  · simp only [LQ.r5_Unpack.l0]
    rw [tdiv8 h, Tr.run_need _ (by omega), hq, Tr.run_br, decide_eq_false (by omega), cond_false, Tr.run_ret]
theorem kind6 (r c w : Int) (x : (Bool × Bool) × Int × Int × Int) : (Tr.br (decide (r < (1 : Int))) (Tr.ret (true, x)) (Tr.br (decide (r > (655350 : Int))) (Tr.ret (true, x)) (Tr.br (decide (c < (1 : Int))) (Tr.ret (true, x)) (Tr.br (decide (c > (8 : Int))) (Tr.ret (true, x)) (Tr.br (decide (w < (4 : Int))) (Tr.ret (true, x)) (Tr.ret (decide (w > (32 : Int)), x))))))).run = some (!okKind r c w, x) := by
  simp only [Tr.run_br, Tr.run_ret]
  by_cases h1 : 1 ≤ r
  · rw [decide_eq_false (p := r < 1) (by omega), cond_false]
    by_cases h2 : r ≤ 655350
    · rw [decide_eq_false (p := r > 655350) (by omega), cond_false]
      by_cases h3 : 1 ≤ c
      · rw [decide_eq_false (p := c < 1) (by omega), cond_false]
        by_cases h4 : c ≤ 8
        · rw [decide_eq_false (p := c > 8) (by omega), cond_false]
          by_cases h5 : 4 ≤ w
          · rw [decide_eq_false (p := w < 4) (by omega), cond_false]
            by_cases h6 : w ≤ 32
            · rw [decide_eq_false (p := w > 32) (by omega), show okKind r c w = true from decide_eq_true ⟨h1, h2, h3, h4, h5, h6⟩]; rfl
            · rw [decide_eq_true (p := w > 32) (by omega), show okKind r c w = false from decide_eq_false (by omega)]; rfl
          · rw [decide_eq_true (p := w < 4) (by omega), show okKind r c w = false from decide_eq_false (by omega)]; rfl
        · rw [decide_eq_true (p := c > 8) (by omega), show okKind r c w = false from decide_eq_false (by omega)]; rfl
      · rw [decide_eq_true (p := c < 1) (by omega), show okKind r c w = false from decide_eq_false (by omega)]; rfl
    · rw [decide_eq_true (p := r > 655350) (by omega), show okKind r c w = false from decide_eq_false (by omega)]; rfl
  · rw [decide_eq_true (p := r < 1) (by omega), show okKind r c w = false from decide_eq_false (by omega)]; rfl
theorem rUnpack_ok (s : List UInt8) (r : Int) (C W q : Nat) (big uns : Bool) (hk : okKind r C W = true) (hs : s.length = q * C * bwN W) (hq : q ≤ 1048576) : LQ.r5_Unpack s r C W (big, uns, ()) = some (unpV big uns r C W (q * C) s) := by
  have hb := okKind_iff hk
  have hw := bwN_bd (W := W) (by omega)
  have hN : q * C ≤ 1048576 * 8 := Nat.mul_le_mul hq (by omega)
  have hL : q * C * bwN W ≤ 8388608 * 4 := Nat.mul_le_mul hN (by omega)
  obtain ⟨h1, h2, h3, h4⟩ := lenq s C W (by omega) (by omega) (by omega)
  have hd : s.length / (bwN W * C) = q := by rw [hs, Nat.mul_assoc, Nat.mul_comm C, Nat.mul_div_cancel _ (by omega)]
  have hm : s.length % (bwN W * C) = 0 := by rw [hs, Nat.mul_assoc, Nat.mul_comm C, Nat.mul_mod_left]
  unfold LQ.r5_Unpack LQ.r5_Unpack.t
  rw [Tr.run_bind]
  refine (congrArg (fun o => Option.bind o _) (kind6 r C W _)).trans ?_
  rw [hk, Option.bind_some, Tr.run_br, Bool.not_true, cond_false, Tr.run_need _ (by rw [h3]; omega), h2, hm, h1, hd, Tr.run_br, show (((0 : Nat) : Int) != 0) = false from rfl, cond_false, Tr.run_need _ (by rw [h3]; omega), w64_id (x := (q : Int)) (by omega), Tr.run_br, decide_eq_false (by omega), cond_false, Tr.run_need _ (by omega), Tr.run_bind, Int.toNat_natCast]
  refine (congrArg (fun o => Option.bind o _) (runp_loop s C W (q * C) big uns _ _ (by omega) (by omega) hs (by omega))).trans ?_
  rw [Option.bind_some]
  unfold unpV
  cases (List.range (q * C)).all (fun j => inW W (xsV big uns W s j)) <;> rfl
theorem Two_eq (w : Int) : LQ.Two w = some (44100, 1, w, [[1, -1]], ()) := rfl
theorem PB_two : PB [[1, -1]] where
  n1 := by decide
  n2 i := by match i with | 0 => decide | i + 1 => simp
  n3 i j := by
    match i, j with
    | 0, 0 => decide
    | 0, 1 => decide
    | 0, j + 2 => simp
    | i + 1, j => simp
end Go.Proofs.Ytfblaicifdgfiaa.Dg
end

section
set_option linter.unusedVariables false
set_option linter.unusedSimpArgs false
namespace Go.LM
theorem leV_leB (N B : Nat) (h : N < 256 ^ B) : leV (leB N B) = N := by
  have : ∀ (B N : Nat), leV (leB N B) = N % 256 ^ B := by
    intro B
    induction B with
    | zero => intro N; simp [leB, leV, Nat.mod_one]
    | succ B ih =>
      intro N
      have e : leB N (B + 1) = UInt8.ofNat N :: leB (N / 256) B := by
        unfold leB
        rw [List.range_succ_eq_map, List.map_cons, List.map_map]
        simp only [Nat.pow_zero, Nat.div_one]
        congr 1
        apply List.map_congr_left
        intro i _
        simp only [Function.comp_apply]
        rw [Nat.pow_succ', Nat.div_div_eq_div_mul]
      have e3 : 256 ^ (B + 1) = 256 * 256 ^ B := Nat.pow_succ'
      rw [e, leV, ih, e3, Nat.mod_mul, UInt8.toNat_ofNat']
  rw [this, Nat.mod_eq_of_lt h]
theorem leB_leV : ∀ (t : List UInt8), leB (leV t) t.length = t := by
  intro t
  induction t with
  | nil => rfl
  | cons b l ih =>
    have hb := b.toNat_lt
    rw [List.length_cons]
    have e : leB (leV (b :: l)) (l.length + 1) = UInt8.ofNat (leV (b :: l)) :: leB (leV (b :: l) / 256) l.length := by
      unfold leB
      rw [List.range_succ_eq_map, List.map_cons, List.map_map]
      simp only [Nat.pow_zero, Nat.div_one]
      congr 1
      apply List.map_congr_left
      intro i _
      simp only [Function.comp_apply]
      rw [Nat.pow_succ', Nat.div_div_eq_div_mul]
    rw [e, leV, show (b.toNat + 256 * leV l) / 256 = leV l by omega, ih]
    congr 1
    apply UInt8.toNat_inj.1
    rw [UInt8.toNat_ofNat']; omega
theorem raw_smpB (big : Bool) (N B : Nat) (h : N < 256 ^ B) : rawV big (smpB big N B) = N := by
  cases big with
  | false => exact leV_leB N B h
  | true =>
    show beV (smpB true N B) = N
    rw [← smpB_be, beV_rev, leV_leB N B h]
theorem smp_back (big uns : Bool) (W : Nat) (n : Int) (h : 4 ≤ W ∧ W ≤ 32) (hn : inW W n = true) : smpV big uns W (smpB big (numU uns W n) (bwN W)) = n := by
  have h1 := two_half h
  have h2 := inW_iff hn
  have h3 := half_bd (w := (W : Int)) (by omega)
  have h4 := numU_lt uns h hn
  unfold smpV
  rw [raw_smpB big _ _ h4]
  unfold numU at h4 ⊢
  cases uns with
  | true => simp only [cond_true] at h4 ⊢; omega
  | false =>
    simp only [cond_false] at h4 ⊢
    by_cases hneg : n < 0
    · have e : n % ((256 ^ bwN W : Nat) : Int) = n + ((256 ^ bwN W : Nat) : Int) := by rw [← Int.add_emod_right, Int.emod_eq_of_lt (by omega) (by omega)]
      rw [e] at h4 ⊢
      rw [decide_eq_true (by omega), cond_true]; omega
    · have e : n % ((256 ^ bwN W : Nat) : Int) = n := Int.emod_eq_of_lt (by omega) (by omega)
      rw [e] at h4 ⊢
      rw [decide_eq_false (by omega), cond_false]; omega
theorem flat_getD {α β : Type} (l : List α) (z : α) (f : α → List β) : l.flatMap f = (List.range l.length).flatMap fun k => f (l.getD k z) := by
  have e : l = (List.range l.length).map fun k => l.getD k z := by
    apply List.ext_getElem (by simp)
    intro i h1 h2
    simp only [List.getElem_map, List.getElem_range, getD_lt _ _ h1]
  conv => lhs; rw [e]
  rw [List.flatMap_map]
theorem flat_grid {β : Type} (f : Nat → Nat → List β) (C : Nat) (hC : 0 < C) : ∀ n, ((List.range n).flatMap fun i => (List.range C).flatMap fun k => f i k) = (List.range (n * C)).flatMap fun j => f (j / C) (j % C)
  | 0 => by simp
  | n + 1 => by
    rw [List.range_succ, List.flatMap_append, flat_grid f C hC n, Nat.succ_mul, List.range_add, List.flatMap_append, List.flatMap_map]
    congr 1
    rw [List.flatMap_cons, List.flatMap_nil, List.append_nil]
    simp only [List.flatMap_eq_foldl]
    have : ∀ (l : List Nat) (a : List β), (∀ k ∈ l, k < C) → l.foldl (fun acc a => acc ++ f n a) a = l.foldl (fun acc a => acc ++ f ((n * C + a) / C) ((n * C + a) % C)) a := by
      intro l
      induction l with
      | nil => intro a _; rfl
      | cons k l ih =>
        intro a hk
        have h1 := hk k (List.mem_cons_self ..)
        rw [List.foldl_cons, List.foldl_cons, ih _ (fun k h => hk k (List.mem_cons_of_mem _ h))]
        rw [show (n * C + k) / C = n by rw [Nat.add_comm, Nat.add_mul_div_right _ _ hC, Nat.div_eq_of_lt h1, Nat.zero_add], show (n * C + k) % C = k by rw [Nat.add_comm, Nat.add_mul_mod_self_right, Nat.mod_eq_of_lt h1]]
    exact this _ _ (fun k hk => List.mem_range.1 hk)
theorem pack_grid (big uns : Bool) (W : Nat) (pl : List (List Int)) (C : Nat) (hC : 0 < C) (hl : pl.length = C) : packV big uns W pl = (List.range ((pl.getD 0 []).length * C)).flatMap fun j => smpB big (numU uns W ((pl.getD (j % C) []).getD (j / C) 0)) (bwN W) := by
  unfold packV rowV
  rw [← flat_grid (fun i k => smpB big (numU uns W ((pl.getD k []).getD i 0)) (bwN W)) C hC]
  congr 1
  funext i
  rw [flat_getD pl [], hl]
theorem flat_len {β : Type} (g : Nat → List β) (B : Nat) (hg : ∀ j, (g j).length = B) : ∀ N, ((List.range N).flatMap g).length = N * B
  | 0 => by simp
  | N + 1 => by rw [List.range_succ, List.flatMap_append, List.length_append, flat_len g B hg N, Nat.succ_mul]; simp [hg]
theorem flat_piece {β : Type} (g : Nat → List β) (B : Nat) (hg : ∀ j, (g j).length = B) (N j : Nat) (hj : j < N) : (((List.range N).flatMap g).drop (j * B)).take B = g j := by
  obtain ⟨m, rfl⟩ : ∃ m, N = j + (1 + m) := ⟨N - j - 1, by omega⟩
  rw [List.range_add, List.flatMap_append, List.drop_append_of_le_length (by rw [flat_len g B hg]; omega), List.drop_of_length_le (by rw [flat_len g B hg]; omega), List.nil_append, Nat.add_comm 1 m, List.range_succ_eq_map, List.map_cons, List.flatMap_cons, Nat.add_zero]
  rw [List.take_append_of_le_length (by rw [hg]; omega), List.take_of_length_le (by rw [hg]; omega)]
theorem up_pl (xs : Nat → Int) (C : Nat) (hC : 0 < C) (k : Nat) (hk : k < C) : ∀ (i m : Nat), m ≤ C → (upV xs C (i * C + m)).getD k [] = (List.range (if k < m then i + 1 else i)).map fun a => xs (a * C + k) := by
  have step : ∀ i m, m < C → ((upV xs C (i * C + m)).getD k [] = (List.range (if k < m then i + 1 else i)).map fun a => xs (a * C + k)) → ((upV xs C (i * C + (m + 1))).getD k [] = (List.range (if k < m + 1 then i + 1 else i)).map fun a => xs (a * C + k)) := by
    intro i m hm ih
    have e1 : (i * C + m) % C = m := by rw [Nat.add_comm, Nat.add_mul_mod_self_right, Nat.mod_eq_of_lt hm]
    rw [← Nat.add_assoc, upV, e1, getD_set, upV_len]
    by_cases h : m = k
    · subst h
      rw [if_pos ⟨rfl, hm⟩, ih, if_neg (by omega), if_pos (by omega), List.range_succ, List.map_append]; rfl
    · rw [if_neg (by omega), ih]
      by_cases h2 : k < m
      · rw [if_pos h2, if_pos (by omega)]
      · rw [if_neg h2, if_neg (by omega)]
  intro i
  induction i with
  | zero =>
    intro m
    induction m with
    | zero =>
      intro _
      rw [if_neg (by omega), Nat.zero_mul, upV, getD_lt _ _ (by rw [List.length_replicate]; exact hk)]; simp
    | succ m ih => intro hm; exact step 0 m (by omega) (ih (by omega))
  | succ i ihi =>
    intro m
    induction m with
    | zero =>
      intro _
      have := ihi C (Nat.le_refl _)
      rw [if_pos hk] at this
      rw [Nat.succ_mul, if_neg (by omega), Nat.add_zero]; exact this
    | succ m ih => intro hm; exact step (i + 1) m (by omega) (ih (by omega))
theorem up_pl0 (xs : Nat → Int) (C : Nat) (hC : 0 < C) (k : Nat) (hk : k < C) (n : Nat) : (upV xs C (n * C)).getD k [] = (List.range n).map fun a => xs (a * C + k) := by
  have := up_pl xs C hC k hk n 0 (by omega)
  rwa [if_neg (by omega), Nat.add_zero] at this
theorem up_eq (xs : Nat → Int) (C : Nat) (hC : 0 < C) (n : Nat) (pl : List (List Int)) (hl : pl.length = C) (hn : ∀ k, k < C → (pl.getD k []).length = n) (hx : ∀ j, j < n * C → xs j = (pl.getD (j % C) []).getD (j / C) 0) : upV xs C (n * C) = pl := by
  apply List.ext_getElem (by rw [upV_len, hl])
  intro k h1 h2
  have hk : k < C := by omega
  have e := up_pl0 xs C hC k hk n
  rw [getD_lt _ _ h1] at e
  rw [e]
  have hnk := hn k hk
  rw [getD_lt _ _ h2] at hnk
  apply List.ext_getElem (by simp [hnk])
  intro a h3 h4
  have ha : a < n := by omega
  have hj : a * C + k < n * C := by
    have := Nat.mul_le_mul_right C (show a + 1 ≤ n from ha)
    rw [Nat.succ_mul] at this; omega
  rw [List.getElem_map, List.getElem_range, hx _ hj, show (a * C + k) % C = k by rw [Nat.add_comm, Nat.add_mul_mod_self_right, Nat.mod_eq_of_lt hk], show (a * C + k) / C = a by rw [Nat.add_comm, Nat.add_mul_div_right _ _ hC, Nat.div_eq_of_lt hk, Nat.zero_add], getD_lt pl _ h2, getD_lt _ _ h4]
end Go.LM
namespace Go.Proofs.Ytfblaicifdgfiaa.Dg
open Go.LM
theorem div_lt {j n C : Nat} (h : j < n * C) : j / C < n := Nat.div_lt_of_lt_mul (by rwa [Nat.mul_comm])
theorem back1 (r : Int) (C W : Nat) (pl : List (List Int)) (big uns : Bool) (hl : PB pl) (hp : pcmOk r C W pl = true) : LQ.pcm_Unpack (packV big uns W pl) r C W (big, uns, ()) = some ((r, (C : Int), (W : Int), pl, ()), 0) := by
  obtain ⟨W', C', hw, hc, h1, h2, h3, h4, h5, h6, h7, h8⟩ := pcmOk_parts hp
  obtain rfl : W = W' := by omega
  obtain rfl : C = C' := by omega
  have hn0 := hl.n2 0
  have hg := pack_grid big uns W pl C (by omega) h5
  have hlen : (packV big uns W pl).length = (pl.getD 0 []).length * C * bwN W := by rw [hg, flat_len _ (bwN W) (fun j => smpB_len _ _ _)]
  rw [Unpack_ok _ r C W _ big uns (pcmOk_kind hp) hlen hn0]
  have hx : ∀ j, j < (pl.getD 0 []).length * C → xsV big uns W (packV big uns W pl) j = (pl.getD (j % C) []).getD (j / C) 0 := by
    intro j hj
    unfold xsV
    have hm := Nat.mod_lt j (show C > 0 by omega)
    rw [hg, flat_piece _ (bwN W) (fun j => smpB_len _ _ _) _ j hj, smp_back _ _ _ _ ⟨h1, h2⟩ (okPl_in h8 _ _ (by omega) (div_lt hj))]
  unfold unpV
  rw [up_eq _ C (by omega) _ pl h5 (fun k hk => okPl_len h8 k (by omega)) hx]
  rw [show (List.range ((pl.getD 0 []).length * C)).all (fun j => inW W (xsV big uns W (packV big uns W pl) j)) = true from ?_]
  · rfl
  · rw [List.all_eq_true]
    intro j hj
    have hj := List.mem_range.1 hj
    have hm := Nat.mod_lt j (show C > 0 by omega)
    rw [hx j hj]
    exact okPl_in h8 _ _ (by omega) (div_lt hj)
end Go.Proofs.Ytfblaicifdgfiaa.Dg
end

