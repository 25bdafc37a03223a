/- PcF: PcX PcY PcZ. -/
import Derived.Test.YtipoadjhenjpiaaPcE
import Derived.Test.YtipoadjhenjpiaaPcD
section
set_option linter.unusedVariables false
set_option linter.unusedSimpArgs false
namespace Go.LM
theorem okPl_len' {w : Int} {pl : List (List Int)} (h : okPl w pl = true) (k : Nat) (hk : k < pl.length) : (pl.getD k []).length = (pl.getD 0 []).length := Go.Proofs.Ytipoadjhenjpiaa.Dg.okPl_len h k hk
theorem flat_succ' {α β : Type} (l : List α) (z : α) (f : α → List β) (k : Nat) (hk : k < l.length) : (l.take (k + 1)).flatMap f = (l.take k).flatMap f ++ f (l.getD k z) := Go.Proofs.Ytipoadjhenjpiaa.Dg.flat_succ l z f k hk
abbrev PCM := Int × Int × Int × List (List Int) × PUnit
/-- A part of the planes. -/
def cutV (pl : List (List Int)) (a b : Nat) : List (List Int) := pl.map fun l => (l.drop a).take (b - a)
def sliceV (r c w : Int) (pl : List (List Int)) (from_ to : Int) : PCM × Int :=
  bif pcmOk r c w pl then bif decide (from_ < 0 ∨ to < from_ ∨ to > lenV pl) then (zPcm, 1) else ((r, c, w, cutV pl from_.toNat to.toNat, ()), 0) else (zPcm, 50)
theorem map_take_succ {α β : Type} (l : List α) (z : α) (f : α → β) (k : Nat) (hk : k < l.length) : (l.take (k + 1)).map f = (l.take k).map f ++ [f (l.getD k z)] := by
  rw [List.take_succ_eq_append_getElem hk, List.map_append, getD_lt _ _ hk]; rfl
theorem cutV_getD (pl : List (List Int)) (a b k : Nat) : (cutV pl a b).getD k [] = ((pl.getD k []).drop a).take (b - a) := by
  unfold cutV
  by_cases h : k < pl.length
  · rw [getD_lt _ _ (by simpa using h), getD_lt _ _ h, List.getElem_map]
  · rw [List.getD_eq_getElem?_getD, List.getD_eq_getElem?_getD, List.getElem?_eq_none (by simp; omega), List.getElem?_eq_none (by omega)]; simp
theorem getD_take {l : List Int} {n j : Nat} (h : j < n) : (l.take n).getD j 0 = l.getD j 0 := by
  simp [List.getD_eq_getElem?_getD, List.getElem?_take, h]
theorem PB_cut {pl : List (List Int)} (hl : PB pl) (a b : Nat) : PB (cutV pl a b) := by
  refine ⟨by have := hl.n1; unfold cutV; rw [List.length_map]; exact this, fun i => ?_, fun i j => ?_⟩
  · rw [cutV_getD, List.length_take, List.length_drop]; have := hl.n2 i; omega
  · rw [cutV_getD]
    by_cases h : j < b - a
    · rw [getD_take h, List.getD_eq_getElem?_getD, List.getElem?_drop, ← List.getD_eq_getElem?_getD]; exact hl.n3 i _
    · rw [List.getD_eq_getElem?_getD, List.getElem?_eq_none (by rw [List.length_take]; omega)]; simp
theorem okPl_cut {w : Int} {pl : List (List Int)} {a b : Nat} (hp : okPl w pl = true) (h1 : a ≤ b) (h2 : b ≤ (pl.getD 0 []).length) : okPl w (cutV pl a b) = true := by
  have e : ∀ k, k < pl.length → ((cutV pl a b).getD k []).length = b - a := fun k hk => by
    rw [cutV_getD, List.length_take, List.length_drop, okPl_len' hp k hk]; omega
  unfold okPl at hp ⊢
  simp only [Bool.and_eq_true, List.all_eq_true] at hp ⊢
  refine ⟨fun l hl => ?_, fun l hl x hx => ?_⟩
  · obtain ⟨k, hk, rfl⟩ := List.mem_iff_getElem.1 hl
    have hk' : k < pl.length := by unfold cutV at hk; rwa [List.length_map] at hk
    rw [beq_iff_eq, e 0 (by omega), ← getD_lt _ [] hk, e k hk']
  · unfold cutV at hl
    obtain ⟨l', hl', rfl⟩ := List.mem_map.1 hl
    exact hp.2 l' hl' x (List.mem_of_mem_drop (List.mem_of_mem_take hx))
theorem pcmOk_cut {r c w : Int} {pl : List (List Int)} {a b : Nat} (hp : pcmOk r c w pl = true) (h1 : a ≤ b) (h2 : b ≤ (pl.getD 0 []).length) : pcmOk r c w (cutV pl a b) = true := by
  unfold pcmOk at hp ⊢
  simp only [Bool.and_eq_true] at hp ⊢
  refine ⟨⟨hp.1.1, ?_⟩, okPl_cut hp.2 h1 h2⟩
  unfold cutV; rw [List.length_map]; exact hp.1.2
def chkJ (p0 p : PCM) : Int := bif pcmOk p.1 p.2.1 p.2.2.1 p.2.2.2.1 then bif (p.1 != p0.1 || (p.2.1 != p0.2.1 || p.2.2.1 != p0.2.2.1)) then 280 else 0 else 50
def errJ (p0 : PCM) : List PCM → Int
  | [] => 0
  | p :: l => bif chkJ p0 p != 0 then chkJ p0 p else errJ p0 l
def sumL (l : List PCM) : Nat := (l.map fun p => (p.2.2.2.1.getD 0 []).length).sum
def accV (l : List PCM) (C i m : Nat) : List (List Int) := (List.range C).map fun k => (l.take (if k < m then i + 1 else i)).flatMap fun p => p.2.2.2.1.getD k []
theorem accV_len (l : List PCM) (C i m : Nat) : (accV l C i m).length = C := by simp [accV]
theorem accV_getD (l : List PCM) (C i m k : Nat) (h : k < C) : (accV l C i m).getD k [] = (l.take (if k < m then i + 1 else i)).flatMap fun p => p.2.2.2.1.getD k [] := by
  rw [getD_lt _ _ (by rw [accV_len]; exact h)]; simp [accV]
theorem accV_step (l : List PCM) (C i m : Nat) (hi : i < l.length) (hm : m < C) : (accV l C i m).set m ((accV l C i m).getD m [] ++ (l.getD i zPcm).2.2.2.1.getD m []) = accV l C i (m + 1) := by
  apply List.ext_getElem (by simp [accV_len])
  intro k h1 h2
  have hk : k < C := by rwa [accV_len] at h2
  rw [List.getElem_set, ← getD_lt _ [] h2, accV_getD _ _ _ _ _ hk]
  by_cases h : m = k
  · subst h
    rw [if_pos rfl, if_pos (by omega), accV_getD _ _ _ _ _ hm, if_neg (by omega), flat_succ' l zPcm _ i hi]
  · rw [if_neg h, ← getD_lt _ [] (by rw [accV_len]; exact hk), accV_getD _ _ _ _ _ hk]
    by_cases h3 : k < m
    · rw [if_pos h3, if_pos (by omega)]
    · rw [if_neg h3, if_neg (by omega)]
theorem accV_next (l : List PCM) (C i : Nat) : accV l C i C = accV l C (i + 1) 0 := by
  unfold accV
  apply List.map_congr_left
  intro k hk
  rw [if_pos (List.mem_range.1 hk), if_neg (by omega)]
theorem accV_zero (l : List PCM) (C : Nat) : accV l C 0 0 = List.replicate C [] := by
  unfold accV
  apply List.ext_getElem (by simp)
  intro k h1 h2
  simp
theorem flatMap_le' {α β : Type} (l : List α) (f : α → List β) (M : Nat) (h : ∀ x ∈ l, (f x).length ≤ M) : (l.flatMap f).length ≤ l.length * M := by
  induction l with
  | nil => simp
  | cons a l ih =>
    rw [List.flatMap_cons, List.length_append, List.length_cons, Nat.succ_mul]
    have h1 := h a (List.mem_cons_self ..)
    have h2 := ih fun x hx => h x (List.mem_cons_of_mem _ hx)
    omega
theorem getD_mem {α : Type} {l : List α} {z : α} {x : α} (h : x ∈ l) : ∃ k, k < l.length ∧ l.getD k z = x := by
  obtain ⟨k, hk, rfl⟩ := List.mem_iff_getElem.1 h
  exact ⟨k, hk, getD_lt _ _ hk⟩
theorem accV_le (l : List PCM) (C i m k : Nat) (hk : k < C) (hi : i < l.length) (hl : l.length ≤ 1048576) (hB : ∀ k, PB (l.getD k zPcm).2.2.2.1) : ((accV l C i m).getD k []).length ≤ 1099511627776 := by
  rw [accV_getD _ _ _ _ _ hk]
  have := flatMap_le' (l.take (if k < m then i + 1 else i)) (fun p => p.2.2.2.1.getD k []) 1048576 (fun p hp => by
    obtain ⟨j, hj, rfl⟩ := getD_mem (z := zPcm) (List.mem_of_mem_take hp)
    exact (hB j).n2 k)
  have h2 : (l.take (if k < m then i + 1 else i)).length * 1048576 ≤ 1048576 * 1048576 := Nat.mul_le_mul_right _ (by rw [List.length_take]; omega)
  omega
theorem errJ_mem {p0 : PCM} : ∀ {l : List PCM}, errJ p0 l = 0 → ∀ p ∈ l, chkJ p0 p = 0
  | [], _, p, hp => by cases hp
  | q :: l, h, p, hp => by
    rw [errJ] at h
    cases hc : chkJ p0 q != 0 with
    | true =>
      rw [hc, cond_true] at h
      rw [h] at hc; cases hc
    | false =>
      rw [hc, cond_false] at h
      rcases List.mem_cons.1 hp with rfl | hp
      · have := bne_eq_false_iff_eq.1 hc; exact this
      · exact errJ_mem h p hp
theorem chkJ_zero {p0 p : PCM} (h : chkJ p0 p = 0) : pcmOk p.1 p.2.1 p.2.2.1 p.2.2.2.1 = true ∧ p.1 = p0.1 ∧ p.2.1 = p0.2.1 ∧ p.2.2.1 = p0.2.2.1 := by
  unfold chkJ at h
  cases h1 : pcmOk p.1 p.2.1 p.2.2.1 p.2.2.2.1 with
  | false => rw [h1, cond_false] at h; cases h
  | true =>
    rw [h1, cond_true] at h
    cases h2 : (p.1 != p0.1 || (p.2.1 != p0.2.1 || p.2.2.1 != p0.2.2.1)) with
    | true => rw [h2, cond_true] at h; cases h
    | false =>
      simp only [Bool.or_eq_false_iff, bne_eq_false_iff_eq] at h2
      exact ⟨rfl, h2.1, h2.2.1, h2.2.2⟩
def joinV (l : List PCM) : PCM × Int :=
  bif l.length == 0 then (zPcm, 280) else
  bif errJ (l.getD 0 zPcm) l == 0 then (((l.getD 0 zPcm).1, (l.getD 0 zPcm).2.1, (l.getD 0 zPcm).2.2.1, accV l (l.getD 0 zPcm).2.2.2.1.length l.length 0, ()), 0) else (zPcm, errJ (l.getD 0 zPcm) l)
/-- Three comparisons. -/
theorem cmp3 {α : Type} {H : Prop} (h : H) (b1 b2 b3 : Bool) (x : α) : (Tr.need H (Tr.br b1 (Tr.ret (true, x)) (Tr.need H (Tr.br b2 (Tr.ret (true, x)) (Tr.need H (Tr.ret (b3, x))))))).run = some (b1 || (b2 || b3), x) := by
  simp only [Tr.run_need _ h, Tr.run_br, Tr.run_ret]
  cases b1 <;> cases b2 <;> rfl
theorem cmp3' {α : Type} {H H' : Prop} (h : H) (h' : H') (b1 b2 b3 : Bool) (x : α) : (Tr.need H (Tr.need H' (Tr.br b1 (Tr.ret (true, x)) (Tr.need H (Tr.need H' (Tr.br b2 (Tr.ret (true, x)) (Tr.need H (Tr.need H' (Tr.ret (b3, x)))))))))).run = some (b1 || (b2 || b3), x) := by
  simp only [Tr.run_need _ h, Tr.run_need _ h', Tr.run_br, Tr.run_ret]
  cases b1 <;> cases b2 <;> rfl
end Go.LM
namespace Go.Proofs.Ytipoadjhenjpiaa.Dg
open Go.LM

theorem CloneD_eq (s : List Int) (h : s.length ≤ 1048576) : LQ.CloneD s = some s := if_pos (by omega)

theorem slice_loop (r c w : Int) (pl : List (List Int)) (a b : Nat) (t : Int × Int × Int) (hl : PB pl) (h1 : a ≤ b) (h2 : ∀ k, k < pl.length → b ≤ (pl.getD k []).length) :
    loopO (fun (d : Int × (Int × Int × Int × List (List Int)) × (Int × Int × Int) × List (List Int)) ↦ (LQ.pcm_Slice.l0 (a : Int) (b : Int) (false, (r, c, w, pl), t) d.fst d.snd.fst d.snd.snd.fst d.snd.snd.snd).run) ((0 : Int), (r, c, w, pl), t, [])
      = some ((r, c, w, pl), t, cutV pl a b) := by
  have hn := hl.n1
  have := loopO_steps (f := fun (d : Int × (Int × Int × Int × List (List Int)) × (Int × Int × Int) × List (List Int)) ↦ (LQ.pcm_Slice.l0 (a : Int) (b : Int) (false, (r, c, w, pl), t) d.fst d.snd.fst d.snd.snd.fst d.snd.snd.snd).run)
    (fun k => ((k : Int), (r, c, w, pl), t, (pl.take k).map fun l => (l.drop a).take (b - a))) (r := ((r, c, w, pl), t, cutV pl a b)) pl.length ?_ ?_
  · simpa using this
  · intro k hk
    have h3 := h2 k hk
    have h4 := hl.n2 k
    simp only [LQ.pcm_Slice.l0]
    rw [Tr.run_br, decide_eq_true (by simp only [Int.ofNat_eq_natCast]; omega), cond_true, Tr.run_need _ (by simp only [Int.ofNat_eq_natCast]; omega), Int.toNat_natCast, Tr.run_need _ (by simp only [Int.ofNat_eq_natCast]; omega), Tr.run_bind, Int.toNat_natCast, show ((b : Int) - (a : Int)).toNat = b - a by omega, CloneD_eq _ (by rw [List.length_take, List.length_drop]; omega), Option.bind_some, Tr.run_need _ (by rw [List.length_map, List.length_take, List.length_set, List.length_replicate]; omega), Tr.run_ret, w64_id (by omega), map_take_succ pl [] _ k hk]
    rfl
  · simp only [LQ.pcm_Slice.l0]
    rw [Tr.run_br, decide_eq_false (by simp only [Int.ofNat_eq_natCast]; omega), cond_false, Tr.run_ret, List.take_length]
    rfl

theorem range3 (x : Int × Int × Int × List (List Int)) (t : Int × Int × Int) (f t' n : Int) (o : Option Int) (ho : o = some n) (h3 : (decide (t' < f)) = (decide (t' < f))) : (Tr.br (decide (f < (0 : Int))) (Tr.ret (true, x, t)) (Tr.br (decide (t' < f)) (Tr.ret (true, x, t)) (Tr.bind Int o (0 : Int) fun (r1 : Int) ↦ Tr.ret (decide (t' > r1), x, t)))).run = some (decide (f < 0 ∨ t' < f ∨ t' > n), x, t) := by
  subst ho
  simp only [Tr.run_br, Tr.run_ret, Tr.run_bind, Option.bind_some]
  by_cases h1 : f < 0 <;> by_cases h2 : t' < f <;> by_cases h3 : t' > n <;> simp [h1, h2, h3]

theorem Slice_eq (r c w : Int) (pl : List (List Int)) (f t : Int) (hl : PB pl) : LQ.pcm_Slice (r, c, w, pl, ()) f t = some (sliceV r c w pl f t) := by
  unfold LQ.pcm_Slice LQ.pcm_Slice.t sliceV
  simp only [Tr.run_bind, Check_eq r c w pl hl, Option.bind_some, Tr.run_br, chk]
  cases hp : pcmOk r c w pl with
  | false => rfl
  | true =>
    have hok : okPl w pl = true := by unfold pcmOk at hp; simp only [Bool.and_eq_true] at hp; exact hp.2
    simp only [cond_true]
    rw [show ((0 : Int) != 0) = false from rfl, cond_false]
    refine (congrArg (fun o => Option.bind o _) (range3 (r, c, w, pl) (0, 0, 0) f t (lenV pl) _ (pLen_eq _ _ _ _ _) rfl)).trans ?_
    rw [Option.bind_some]
    by_cases h : f < 0 ∨ t < f ∨ t > lenV pl
    · rw [decide_eq_true h]; rfl
    · rw [decide_eq_false h]
      unfold lenV at h
      obtain ⟨a, rfl⟩ : ∃ a : Nat, f = (a : Int) := ⟨f.toNat, by omega⟩
      obtain ⟨b, rfl⟩ : ∃ b : Nat, t = (b : Int) := ⟨t.toNat, by omega⟩
      simp only [cond_false]
      refine (congrArg (fun o => Option.bind o _) (slice_loop r c w pl a b (0, 0, 0) hl (by omega) (fun k hk => by rw [okPl_len hok k hk]; omega))).trans ?_
      rfl

theorem Cut_eq (r c w : Int) (pl : List (List Int)) (a b : Nat) (hl : PB pl) (h1 : a ≤ b) (h2 : ∀ k, k < pl.length → b ≤ (pl.getD k []).length) : LQ.Cut (r, c, w, pl, ()) a b = some ((r, c, w), cutV pl a b) := by
  have hn := hl.n1
  unfold LQ.Cut LQ.Cut.t
  rw [Tr.run_bind]
  have := loopO_steps (f := fun (d : Int × (Int × Int × Int × List (List Int)) × (Int × Int × Int) × (Int × Int × Int) × List (List Int)) ↦ (LQ.Cut.l0 (a : Int) (b : Int) d.fst d.snd.fst d.snd.snd.fst d.snd.snd.snd.fst d.snd.snd.snd.snd).run)
    (fun k => ((k : Int), (r, c, w, pl), (0, 0, 0), (r, c, w), (pl.take k).map fun l => (l.drop a).take (b - a))) (r := ((0, 0, 0), (r, c, w), cutV pl a b)) pl.length ?_ ?_
  · refine (congrArg (fun o => Option.bind o _) this).trans ?_
    rfl
  · intro k hk
    have h3 := h2 k hk
    have h4 := hl.n2 k
    simp only [LQ.Cut.l0]
    rw [Tr.run_br, decide_eq_true (by simp only [Int.ofNat_eq_natCast]; omega), cond_true, Tr.run_need _ (by simp only [Int.ofNat_eq_natCast]; omega), Int.toNat_natCast, Tr.run_need _ (by simp only [Int.ofNat_eq_natCast]; omega), Int.toNat_natCast, show ((b : Int) - (a : Int)).toNat = b - a by omega, Tr.run_need _ (by rw [List.length_take, List.length_drop]; omega), Tr.run_need _ (by rw [List.length_map, List.length_take, List.length_singleton]; omega), Tr.run_ret, w64_id (by omega), map_take_succ pl [] _ k hk]
    rfl
  · simp only [LQ.Cut.l0]
    rw [Tr.run_br, decide_eq_false (by simp only [Int.ofNat_eq_natCast]; omega), cond_false, Tr.run_ret, List.take_length]
    rfl

theorem rSlice_eq (r c w : Int) (pl : List (List Int)) (f t : Int) (hl : PB pl) : LQ.r5_Slice (r, c, w, pl, ()) f t = some (sliceV r c w pl f t) := by
  unfold LQ.r5_Slice LQ.r5_Slice.t sliceV
  simp only [Tr.run_bind, rCheck_eq r c w pl hl, Option.bind_some, Tr.run_br, chk]
  cases hp : pcmOk r c w pl with
  | false => rfl
  | true =>
    have hok : okPl w pl = true := by unfold pcmOk at hp; simp only [Bool.and_eq_true] at hp; exact hp.2
    simp only [cond_true]
    rw [show ((0 : Int) != 0) = false from rfl, cond_false]
    refine (congrArg (fun o => Option.bind o _) (range3 (r, c, w, pl) (0, 0, 0) f t (lenV pl) _ (rLen_eq _ _ _ _ _) rfl)).trans ?_
    rw [Option.bind_some]
    by_cases h : f < 0 ∨ t < f ∨ t > lenV pl
    · rw [decide_eq_true h]; rfl
    · rw [decide_eq_false h]
      unfold lenV at h
      obtain ⟨a, rfl⟩ : ∃ a : Nat, f = (a : Int) := ⟨f.toNat, by omega⟩
      obtain ⟨b, rfl⟩ : ∃ b : Nat, t = (b : Int) := ⟨t.toNat, by omega⟩
      simp only [cond_false]
      rw [Cut_eq r c w pl a b hl (by omega) (fun k hk => by rw [okPl_len hok k hk]; omega)]
      rfl

theorem drop_cons {l : List PCM} {k : Nat} (h : k < l.length) : l.drop k = l.getD k zPcm :: l.drop (k + 1) := by
  rw [getD_lt _ _ h]; exact List.drop_eq_getElem_cons h

theorem join_l0 (l : List PCM) (hlen : l.length ≤ 1048576) (hB : ∀ k, PB (l.getD k zPcm).2.2.2.1) : ∀ (j k n : Nat), k + j = l.length → n + sumL (l.drop k) ≤ 1048576 →
    loopO (fun (d : Int × Int × Int × Int × Int) ↦ (LQ.pcm_Join.l0 l d.fst d.snd.fst d.snd.snd.fst d.snd.snd.snd.fst d.snd.snd.snd.snd).run) ((n : Int), (k : Int), (0 : Int), (0 : Int), (0 : Int))
      = some (bif errJ (l.getD 0 zPcm) (l.drop k) == 0 then .inr (((n + sumL (l.drop k) : Nat) : Int), 0, 0, 0) else .inl (errJ (l.getD 0 zPcm) (l.drop k), 0, 0, 0)) := by
  intro j
  induction j with
  | zero =>
    intro k n hk hn
    rw [List.drop_of_length_le (by omega)]
    refine loopO_done ?_
    simp only [LQ.pcm_Join.l0]
    rw [Tr.run_br, decide_eq_false (by simp only [Int.ofNat_eq_natCast]; omega), cond_false, Tr.run_ret]
    simp [errJ, sumL]
  | succ j ih =>
    intro k n hk hn
    have hkl : k < l.length := by omega
    rw [drop_cons hkl] at hn ⊢
    have hs : sumL (l.getD k zPcm :: l.drop (k + 1)) = ((l.getD k zPcm).2.2.2.1.getD 0 []).length + sumL (l.drop (k + 1)) := rfl
    rw [hs] at hn
    have hp := hB k
    have hstep : (LQ.pcm_Join.l0 l (n : Int) (k : Int) 0 0 0).run = some (bif chkJ (l.getD 0 zPcm) (l.getD k zPcm) != 0 then .inr (.inl (chkJ (l.getD 0 zPcm) (l.getD k zPcm), 0, 0, 0)) else .inl (((n + ((l.getD k zPcm).2.2.2.1.getD 0 []).length : Nat) : Int), ((k + 1 : Nat) : Int), 0, 0, 0)) := by
      simp only [LQ.pcm_Join.l0]
      rw [Tr.run_br, decide_eq_true (by simp only [Int.ofNat_eq_natCast]; omega), cond_true, Tr.run_need _ (by simp only [Int.ofNat_eq_natCast]; omega), Int.toNat_natCast]
      rw [show ((0 : Int), (0 : Int), (0 : Int), ([] : List (List Int)), ()) = zPcm from rfl]
      generalize l.getD k zPcm = p at hp hn ⊢
      obtain ⟨r, c, w, pl, u⟩ := p
      simp only [] at hp hn ⊢
      rw [Tr.run_bind, Check_eq r c w pl hp, Option.bind_some]
      unfold chkJ chk
      simp only []
      cases hok : pcmOk r c w pl with
      | false => rfl
      | true =>
        rw [Tr.run_br]
        simp only [cond_true]
        rw [show ((0 : Int) != 0) = false from rfl, cond_false, Tr.run_bind]
        refine (congrArg (fun o => Option.bind o _) (cmp3 (by simp only [Int.ofNat_eq_natCast]; omega) _ _ _ _)).trans ?_
        rw [Option.bind_some]
        cases (r != (l.getD 0 zPcm).1 || (c != (l.getD 0 zPcm).2.1 || w != (l.getD 0 zPcm).2.2.1)) with
        | true => rfl
        | false =>
          simp only [Tr.run_br, cond_false, Tr.run_bind, pLen_eq, Option.bind_some, Tr.run_ret]
          unfold lenV
          rw [w64_id (x := (n : Int) + _) (by omega), w64_id (by omega)]
          rfl
    rw [errJ]
    cases hc : chkJ (l.getD 0 zPcm) (l.getD k zPcm) != 0 with
    | true =>
      rw [hc, cond_true] at hstep
      rw [cond_true]
      refine (loopO_done hstep).trans ?_
      rw [show (chkJ (l.getD 0 zPcm) (l.getD k zPcm) == 0) = false by unfold bne at hc; simpa using hc]
      rfl
    | false =>
      rw [hc, cond_false] at hstep
      rw [cond_false, hs]
      refine (loopO_next hstep).trans ?_
      rw [ih (k + 1) _ (by omega) (by omega), Nat.add_assoc]

theorem rjoin_l0 (l : List PCM) (hlen : l.length ≤ 1048576) (hB : ∀ k, PB (l.getD k zPcm).2.2.2.1) : ∀ (j k n : Nat), k + j = l.length → n + sumL (l.drop k) ≤ 1048576 →
    loopO (fun (d : Int × Int × Int × Int × Int) ↦ (LQ.r5_Join.l0 l d.fst d.snd.fst d.snd.snd.fst d.snd.snd.snd.fst d.snd.snd.snd.snd).run) ((n : Int), (k : Int), (0 : Int), (0 : Int), (0 : Int))
      = some (bif errJ (l.getD 0 zPcm) (l.drop k) == 0 then .inr (((n + sumL (l.drop k) : Nat) : Int), 0, 0, 0) else .inl (errJ (l.getD 0 zPcm) (l.drop k), 0, 0, 0)) := by
  intro j
  induction j with
  | zero =>
    intro k n hk hn
    rw [List.drop_of_length_le (by omega)]
    refine loopO_done ?_
    simp only [LQ.r5_Join.l0]
    rw [Tr.run_br, decide_eq_false (by simp only [Int.ofNat_eq_natCast]; omega), cond_false, Tr.run_ret]
    simp [errJ, sumL]
  | succ j ih =>
    intro k n hk hn
    have hkl : k < l.length := by omega
    rw [drop_cons hkl] at hn ⊢
    have hs : sumL (l.getD k zPcm :: l.drop (k + 1)) = ((l.getD k zPcm).2.2.2.1.getD 0 []).length + sumL (l.drop (k + 1)) := rfl
    rw [hs] at hn
    have hp := hB k
    have hstep : (LQ.r5_Join.l0 l (n : Int) (k : Int) 0 0 0).run = some (bif chkJ (l.getD 0 zPcm) (l.getD k zPcm) != 0 then .inr (.inl (chkJ (l.getD 0 zPcm) (l.getD k zPcm), 0, 0, 0)) else .inl (((n + ((l.getD k zPcm).2.2.2.1.getD 0 []).length : Nat) : Int), ((k + 1 : Nat) : Int), 0, 0, 0)) := by
      simp only [LQ.r5_Join.l0]
      rw [Tr.run_br, decide_eq_true (by simp only [Int.ofNat_eq_natCast]; omega), cond_true, Tr.run_need _ (by simp only [Int.ofNat_eq_natCast]; omega), Int.toNat_natCast]
      rw [show ((0 : Int), (0 : Int), (0 : Int), ([] : List (List Int)), ()) = zPcm from rfl]
      generalize l.getD k zPcm = p at hp hn ⊢
      obtain ⟨r, c, w, pl, u⟩ := p
      simp only [] at hp hn ⊢
      rw [Tr.run_bind, rCheck_eq r c w pl hp, Option.bind_some]
      unfold chkJ chk
      simp only []
      cases hok : pcmOk r c w pl with
      | false => rfl
      | true =>
        rw [Tr.run_br]
        simp only [cond_true]
        rw [show ((0 : Int) != 0) = false from rfl, cond_false, Tr.run_bind]
        refine (congrArg (fun o => Option.bind o _) (cmp3' (by simp only [Int.ofNat_eq_natCast]; omega) (by simp only [Int.ofNat_eq_natCast]; omega) _ _ _ _)).trans ?_
        rw [Option.bind_some]
        cases (r != (l.getD 0 zPcm).1 || (c != (l.getD 0 zPcm).2.1 || w != (l.getD 0 zPcm).2.2.1)) with
        | true => rfl
        | false =>
          simp only [Tr.run_br, cond_false, Tr.run_need _ (show (0 : Int) ≤ (k : Int) ∧ (k : Int) < Int.ofNat l.length by simp only [Int.ofNat_eq_natCast]; omega), Tr.run_bind, rLen_eq, Option.bind_some, Tr.run_ret]
          unfold lenV
          rw [w64_id (x := (n : Int) + _) (by omega), w64_id (by omega)]
          rfl
    rw [errJ]
    cases hc : chkJ (l.getD 0 zPcm) (l.getD k zPcm) != 0 with
    | true =>
      rw [hc, cond_true] at hstep
      rw [cond_true]
      refine (loopO_done hstep).trans ?_
      rw [show (chkJ (l.getD 0 zPcm) (l.getD k zPcm) == 0) = false by unfold bne at hc; simpa using hc]
      rfl
    | false =>
      rw [hc, cond_false] at hstep
      rw [cond_false, hs]
      refine (loopO_next hstep).trans ?_
      rw [ih (k + 1) _ (by omega) (by omega), Nat.add_assoc]

theorem join_l2 (l : List PCM) (C i : Nat) (a b : Int × Int × Int) (hlen : l.length ≤ 1048576) (hi : i < l.length) (hC : (l.getD i zPcm).2.2.2.1.length = C) (hB : ∀ k, PB (l.getD k zPcm).2.2.2.1) :
    loopO (fun (d : Int × (Int × Int × Int) × (Int × Int × Int) × List (List Int)) ↦ (LQ.pcm_Join.l2 l (i : Int) d.fst d.snd.fst d.snd.snd.fst d.snd.snd.snd).run) ((0 : Int), a, b, accV l C i 0) = some (a, b, accV l C (i + 1) 0) := by
  have hn := (hB i).n1
  rw [← accV_next]
  refine loopO_steps (f := fun (d : Int × (Int × Int × Int) × (Int × Int × Int) × List (List Int)) ↦ (LQ.pcm_Join.l2 l (i : Int) d.fst d.snd.fst d.snd.snd.fst d.snd.snd.snd).run) (fun m => ((m : Int), a, b, accV l C i m)) C ?_ ?_
  · intro m hm
    have h1 := accV_le l C i m m hm hi hlen hB
    have h2 := (hB i).n2 m
    simp only [LQ.pcm_Join.l2, Int.toNat_natCast]
    rw [show ((0 : Int), (0 : Int), (0 : Int), ([] : List (List Int)), ()) = zPcm from rfl, Tr.run_br, decide_eq_true (by simp only [Int.ofNat_eq_natCast]; omega), cond_true, Tr.run_need _ (by simp only [Int.ofNat_eq_natCast]; omega), Tr.run_need _ (by rw [accV_len]; simp only [Int.ofNat_eq_natCast]; omega), Tr.run_need _ (by omega), Tr.run_need _ (by rw [accV_len]; simp only [Int.ofNat_eq_natCast]; omega), Tr.run_need _ trivial, Tr.run_ret, w64_id (by omega), accV_step l C i m hi hm]
    rfl
  · simp only [LQ.pcm_Join.l2, Int.toNat_natCast]
    rw [show ((0 : Int), (0 : Int), (0 : Int), ([] : List (List Int)), ()) = zPcm from rfl, Tr.run_br, decide_eq_false (by simp only [Int.ofNat_eq_natCast]; omega), cond_false, Tr.run_ret]

theorem rjoin_l2 (l : List PCM) (C i : Nat) (a b : Int × Int × Int) (hlen : l.length ≤ 1048576) (hi : i < l.length) (hC : (l.getD i zPcm).2.2.2.1.length = C) (hB : ∀ k, PB (l.getD k zPcm).2.2.2.1) :
    loopO (fun (d : Int × (Int × Int × Int) × (Int × Int × Int) × List (List Int)) ↦ (LQ.r5_Join.l2 l (i : Int) d.fst d.snd.fst d.snd.snd.fst d.snd.snd.snd).run) ((0 : Int), a, b, accV l C i 0) = some (a, b, accV l C (i + 1) 0) := by
  have hn := (hB i).n1
  rw [← accV_next]
  refine loopO_steps (f := fun (d : Int × (Int × Int × Int) × (Int × Int × Int) × List (List Int)) ↦ (LQ.r5_Join.l2 l (i : Int) d.fst d.snd.fst d.snd.snd.fst d.snd.snd.snd).run) (fun m => ((m : Int), a, b, accV l C i m)) C ?_ ?_
  · intro m hm
    have h1 := accV_le l C i m m hm hi hlen hB
    have h2 := (hB i).n2 m
    simp only [LQ.r5_Join.l2, Int.toNat_natCast]
    rw [show ((0 : Int), (0 : Int), (0 : Int), ([] : List (List Int)), ()) = zPcm from rfl, Tr.run_br, decide_eq_true (by rw [accV_len]; simp only [Int.ofNat_eq_natCast]; omega), cond_true, Tr.run_need _ (by rw [accV_len]; simp only [Int.ofNat_eq_natCast]; omega), Tr.run_need _ (by simp only [Int.ofNat_eq_natCast]; omega), Tr.run_need _ (by simp only [Int.ofNat_eq_natCast]; omega), Tr.run_need _ (by omega), Tr.run_need _ (by rw [accV_len]; simp only [Int.ofNat_eq_natCast]; omega), Tr.run_need _ trivial, Tr.run_ret, w64_id (by omega), accV_step l C i m hi hm]
    rfl
  · simp only [LQ.r5_Join.l2, Int.toNat_natCast]
    rw [show ((0 : Int), (0 : Int), (0 : Int), ([] : List (List Int)), ()) = zPcm from rfl, Tr.run_br, decide_eq_false (by rw [accV_len]; simp only [Int.ofNat_eq_natCast]; omega), cond_false, Tr.run_ret]

theorem errJ_all {l : List PCM} (h : errJ (l.getD 0 zPcm) l = 0) (k : Nat) (hk : k < l.length) : pcmOk (l.getD k zPcm).1 (l.getD k zPcm).2.1 (l.getD k zPcm).2.2.1 (l.getD k zPcm).2.2.2.1 = true ∧ (l.getD k zPcm).2.2.2.1.length = (l.getD 0 zPcm).2.2.2.1.length := by
  have h1 := chkJ_zero (errJ_mem h (l.getD k zPcm) (by rw [getD_lt _ _ hk]; exact List.getElem_mem hk))
  have h0 := chkJ_zero (errJ_mem h (l.getD 0 zPcm) (by rw [getD_lt l _ (show 0 < l.length by omega)]; exact List.getElem_mem _))
  refine ⟨h1.1, ?_⟩
  obtain ⟨W, C, _, hc, _, _, _, _, h5, _⟩ := pcmOk_parts h1.1
  obtain ⟨W', C', _, hc', _, _, _, _, h5', _⟩ := pcmOk_parts h0.1
  have := h1.2.2.1
  omega

theorem Join_eq (l : List PCM) (hlen : l.length ≤ 1048576) (hB : ∀ k, PB (l.getD k zPcm).2.2.2.1) (hs : sumL l ≤ 1048576) : LQ.pcm_Join l = some (joinV l) := by
  unfold LQ.pcm_Join LQ.pcm_Join.t joinV
  rw [show ((0 : Int), (0 : Int), (0 : Int), ([] : List (List Int)), ()) = zPcm from rfl, Tr.run_br]
  by_cases h0 : l.length = 0
  · rw [show (Int.ofNat l.length == (0 : Int)) = true by simp only [Int.ofNat_eq_natCast, beq_iff_eq]; omega, show (l.length == 0) = true by simpa using h0]; rfl
  · rw [show (Int.ofNat l.length == (0 : Int)) = false by simp only [Int.ofNat_eq_natCast, beq_eq_false_iff_ne]; omega, show (l.length == 0) = false by simpa using h0, cond_false, cond_false, Tr.run_bind]
    have e0 := join_l0 l hlen hB l.length 0 0 (by omega) (by rw [List.drop_zero]; omega)
    rw [List.drop_zero, Nat.zero_add] at e0
    refine (congrArg (fun o => Option.bind o _) e0).trans ?_
    rw [Option.bind_some]
    cases he : errJ (l.getD 0 zPcm) l == 0 with
    | false => rfl
    | true =>
      have he := beq_iff_eq.1 he
      have h01 := (hB 0).n1
      rw [cond_true, Tr.run_csr, Tr.run_br, decide_eq_false (by omega), cond_false, Tr.run_need _ (by simp only [Int.ofNat_eq_natCast]; omega), Tr.run_need _ (by simp only [Int.ofNat_eq_natCast]; omega), Tr.run_need _ (by simp only [Int.ofNat_eq_natCast]; omega), Tr.run_bind]
      rw [show List.replicate (Int.ofNat (l.getD 0 zPcm).2.2.2.1.length).toNat ([] : List Int) = accV l (l.getD 0 zPcm).2.2.2.1.length 0 0 by rw [accV_zero]; rfl]
      have := loopO_steps (f := fun (d : Int × (Int × Int × Int) × (Int × Int × Int) × List (List Int)) ↦ (LQ.pcm_Join.l1 l d.fst d.snd.fst d.snd.snd.fst d.snd.snd.snd).run) (fun i => ((i : Int), (0, 0, 0), ((l.getD 0 zPcm).1, (l.getD 0 zPcm).2.1, (l.getD 0 zPcm).2.2.1), accV l (l.getD 0 zPcm).2.2.2.1.length i 0)) (r := ((0, 0, 0), ((l.getD 0 zPcm).1, (l.getD 0 zPcm).2.1, (l.getD 0 zPcm).2.2.1), accV l (l.getD 0 zPcm).2.2.2.1.length l.length 0)) l.length ?_ ?_
      · refine (congrArg (fun o => Option.bind o _) this).trans ?_
        rfl
      · intro i hi
        simp only [LQ.pcm_Join.l1]
        rw [Tr.run_br, decide_eq_true (by simp only [Int.ofNat_eq_natCast]; omega), cond_true, Tr.run_need _ (by simp only [Int.ofNat_eq_natCast]; omega), Tr.run_bind]
        refine (congrArg (fun o => Option.bind o _) (join_l2 l _ i _ _ hlen hi (errJ_all he i hi).2 hB)).trans ?_
        rw [Option.bind_some, Tr.run_ret, w64_id (by omega)]
        rfl
      · simp only [LQ.pcm_Join.l1]
        rw [Tr.run_br, decide_eq_false (by simp only [Int.ofNat_eq_natCast]; omega), cond_false, Tr.run_ret]

theorem cut_all (l : List PCM) (he : errJ (l.getD 0 zPcm) l = 0) (h0 : 0 < l.length) : cutV (l.getD 0 zPcm).2.2.2.1 0 ((l.getD 0 zPcm).2.2.2.1.getD 0 []).length = accV l (l.getD 0 zPcm).2.2.2.1.length 1 0 := by
  have hok := (errJ_all he 0 h0).1
  have hok : okPl (l.getD 0 zPcm).2.2.1 (l.getD 0 zPcm).2.2.2.1 = true := by unfold pcmOk at hok; simp only [Bool.and_eq_true] at hok; exact hok.2
  apply List.ext_getElem (by rw [accV_len]; simp [cutV])
  intro k h1 h2
  have hk : k < (l.getD 0 zPcm).2.2.2.1.length := by rwa [accV_len] at h2
  rw [← getD_lt _ [] h1, ← getD_lt _ [] h2, cutV_getD, accV_getD _ _ _ _ _ hk, if_neg (by omega), List.drop_zero, List.take_of_length_le (by rw [okPl_len hok k hk]; omega)]
  have e : l.take 1 = [l.getD 0 zPcm] := by
    rw [List.take_succ_eq_append_getElem h0, getD_lt _ _ h0]; rfl
  rw [e]
  simp

theorem rJoin_eq (l : List PCM) (hlen : l.length ≤ 1048576) (hB : ∀ k, PB (l.getD k zPcm).2.2.2.1) (hs : sumL l ≤ 1048576) : LQ.r5_Join l = some (joinV l) := by
  unfold LQ.r5_Join LQ.r5_Join.t joinV
  rw [show ((0 : Int), (0 : Int), (0 : Int), ([] : List (List Int)), ()) = zPcm from rfl, Tr.run_br]
  by_cases h0 : l.length = 0
  · rw [show (Int.ofNat l.length == (0 : Int)) = true by simp only [Int.ofNat_eq_natCast, beq_iff_eq]; omega, show (l.length == 0) = true by simpa using h0]; rfl
  · rw [show (Int.ofNat l.length == (0 : Int)) = false by simp only [Int.ofNat_eq_natCast, beq_eq_false_iff_ne]; omega, show (l.length == 0) = false by simpa using h0, cond_false, cond_false, Tr.run_bind]
    have e0 := rjoin_l0 l hlen hB l.length 0 0 (by omega) (by rw [List.drop_zero]; omega)
    rw [List.drop_zero, Nat.zero_add] at e0
    refine (congrArg (fun o => Option.bind o _) e0).trans ?_
    rw [Option.bind_some]
    cases he : errJ (l.getD 0 zPcm) l == 0 with
    | false => rfl
    | true =>
      have he := beq_iff_eq.1 he
      have hca := cut_all l he (by omega)
      have hok := (errJ_all he 0 (by omega)).1
      have hok : okPl (l.getD 0 zPcm).2.2.1 (l.getD 0 zPcm).2.2.2.1 = true := by unfold pcmOk at hok; simp only [Bool.and_eq_true] at hok; exact hok.2
      have hB0 := hB 0
      rw [cond_true, Tr.run_csr, Tr.run_br, decide_eq_false (by omega), cond_false, Tr.run_need _ (by simp only [Int.ofNat_eq_natCast]; omega), Tr.run_need _ (by simp only [Int.ofNat_eq_natCast]; omega), Tr.run_bind]
      have eL : LQ.r5_Len (l.getD 0 zPcm) = some ((((l.getD 0 zPcm).2.2.2.1.getD 0 []).length : Nat) : Int) := rLen_eq (l.getD 0 zPcm).1 (l.getD 0 zPcm).2.1 (l.getD 0 zPcm).2.2.1 (l.getD 0 zPcm).2.2.2.1 ()
      have eC := Cut_eq (l.getD 0 zPcm).1 (l.getD 0 zPcm).2.1 (l.getD 0 zPcm).2.2.1 (l.getD 0 zPcm).2.2.2.1 0 ((l.getD 0 zPcm).2.2.2.1.getD 0 []).length hB0 (by omega) (fun k hk => by rw [okPl_len hok k hk]; omega)
      rw [eL, Option.bind_some, Tr.run_bind]
      refine (congrArg (fun o => Option.bind o _) eC).trans ?_
      rw [hca, Option.bind_some, Tr.run_bind]
      have := loopO_steps (f := fun (d : Int × (Int × Int × Int) × (Int × Int × Int) × List (List Int)) ↦ (LQ.r5_Join.l1 l d.fst d.snd.fst d.snd.snd.fst d.snd.snd.snd).run) (fun i => (((i + 1 : Nat) : Int), (0, 0, 0), ((l.getD 0 zPcm).1, (l.getD 0 zPcm).2.1, (l.getD 0 zPcm).2.2.1), accV l (l.getD 0 zPcm).2.2.2.1.length (i + 1) 0)) (r := ((0, 0, 0), ((l.getD 0 zPcm).1, (l.getD 0 zPcm).2.1, (l.getD 0 zPcm).2.2.1), accV l (l.getD 0 zPcm).2.2.2.1.length l.length 0)) (l.length - 1) ?_ ?_
      · refine (congrArg (fun o => Option.bind o _) this).trans ?_
        rfl
      · intro i hi
        simp only [LQ.r5_Join.l1]
        rw [Tr.run_br, decide_eq_true (by simp only [Int.ofNat_eq_natCast]; omega), cond_true, Tr.run_bind]
        refine (congrArg (fun o => Option.bind o _) (rjoin_l2 l _ (i + 1) _ _ hlen (by omega) (errJ_all he (i + 1) (by omega)).2 hB)).trans ?_
        rw [Option.bind_some, Tr.run_ret, w64_id (by omega)]
        rfl
      · simp only [LQ.r5_Join.l1]
        rw [show l.length - 1 + 1 = l.length by omega, Tr.run_br, decide_eq_false (by simp only [Int.ofNat_eq_natCast]; omega), cond_false, Tr.run_ret]
end Go.Proofs.Ytipoadjhenjpiaa.Dg
end

section
set_option linter.unusedVariables false
set_option linter.unusedSimpArgs false
namespace Go.Proofs.Ytipoadjhenjpiaa.Dg
open Go.LM

theorem cuts_join (r c w : Int) (pl : List (List Int)) (a b : Nat) (hl : PB pl) (hp : pcmOk r c w pl = true) (h1 : a ≤ b) (h2 : b ≤ (pl.getD 0 []).length) :
    LQ.pcm_Join [(r, c, w, cutV pl 0 a, ()), (r, c, w, cutV pl a b, ()), (r, c, w, cutV pl b (pl.getD 0 []).length, ())] = some ((r, c, w, pl, ()), 0) := by
  have hn0 := hl.n2 0
  have o1 := pcmOk_cut hp (Nat.zero_le a) (show a ≤ (pl.getD 0 []).length by omega)
  have o2 := pcmOk_cut hp h1 h2
  have o3 := pcmOk_cut hp h2 (Nat.le_refl _)
  have hok : okPl w pl = true := by unfold pcmOk at hp; simp only [Bool.and_eq_true] at hp; exact hp.2
  have hz : PB zPcm.2.2.2.1 := ⟨by simp [zPcm], fun i => by simp [zPcm], fun i j => by simp [zPcm]⟩
  rw [Join_eq _ (by simp) (fun k => by
    match k with
    | 0 => exact PB_cut hl _ _
    | 1 => exact PB_cut hl _ _
    | 2 => exact PB_cut hl _ _
    | k + 3 => exact hz) (by
    simp only [sumL, List.map_cons, List.map_nil, List.sum_cons, List.sum_nil, cutV_getD, List.length_take, List.length_drop]; omega)]
  have he : errJ (r, c, w, cutV pl 0 a, ()) [(r, c, w, cutV pl 0 a, ()), (r, c, w, cutV pl a b, ()), (r, c, w, cutV pl b (pl.getD 0 []).length, ())] = 0 := by
    simp only [errJ, chkJ, o1, o2, o3, bne_self_eq_false, Bool.or_self, cond_true, cond_false]
  unfold joinV
  show some (bif _ then _ else bif errJ (r, c, w, cutV pl 0 a, ()) _ == 0 then _ else _) = _
  rw [he]
  show some ((r, c, w, accV _ (cutV pl 0 a).length 3 0, ()), (0 : Int)) = _
  congr 5
  have hlc : (cutV pl 0 a).length = pl.length := by simp [cutV]
  rw [hlc]
  refine congrArg (fun q => (q, ())) ?_
  apply List.ext_getElem (by rw [accV_len])
  intro k h3 h4
  have hlen := okPl_len hok k h4
  rw [← getD_lt _ [] h3, ← getD_lt _ [] h4, accV_getD _ _ _ _ _ h4, if_neg (by omega)]
  simp only [List.take_succ_cons, List.take_zero, List.flatMap_cons, List.flatMap_nil, List.append_nil, cutV_getD, List.drop_zero, Nat.sub_zero]
  rw [List.take_of_length_le (l := (pl.getD k []).drop b) (by rw [List.length_drop]; omega)]
  have e2 : ((pl.getD k []).drop a).take (b - a) ++ (pl.getD k []).drop b = (pl.getD k []).drop a := by
    have : (pl.getD k []).drop b = ((pl.getD k []).drop a).drop (b - a) := by rw [List.drop_drop]; congr 1; omega
    rw [this, List.take_append_drop]
  rw [e2, List.take_append_drop]

theorem PcmCuts_law (r c w : Int) (pl : List (List Int)) (x y : Int) (hl : PB pl) : LQ.PcmCuts (r, c, w, pl, ()) x y = some true := by
  unfold LQ.PcmCuts LQ.PcmCuts.t
  have hn0 := hl.n2 0
  simp only [Tr.run_bind, Check_eq _ _ _ _ hl, rCheck_eq _ _ _ _ hl, Option.bind_some, Tr.run_br, Tr.run_ret, chk]
  cases hp : pcmOk r c w pl with
  | false => simp only [cond_false, awake05_eq, Option.bind_some]; rfl
  | true =>
    simp only [cond_true, pLen_eq, Option.bind_some]
    rw [show ((0 : Int) != 0) = false from rfl, cond_false]
    generalize hA : (if (if lenV pl < x then lenV pl else x) > (0 : Int) then if lenV pl < x then lenV pl else x else (0 : Int)) = A
    generalize hB : (if (if lenV pl < y then lenV pl else y) > (0 : Int) then if lenV pl < y then lenV pl else y else (0 : Int)) = B
    have hA0 : 0 ≤ A ∧ A ≤ lenV pl := by unfold lenV at hA ⊢; subst hA; split <;> split <;> omega
    have hB0 : 0 ≤ B ∧ B ≤ lenV pl := by unfold lenV at hB ⊢; subst hB; split <;> split <;> omega
    have key : ∀ a b : Nat, a ≤ b → b ≤ (pl.getD 0 []).length → ∀ z : Int × Int × Int × Int × Int × List (List Int), z = ((a : Int), (b : Int), r, c, w, pl) →
        ((LQ.pcm_Slice (z.snd.snd.fst, z.snd.snd.snd.fst, z.snd.snd.snd.snd.fst, z.snd.snd.snd.snd.snd, ()) (0 : Int) z.fst).bind fun r6 => (LQ.pcm_Slice (z.snd.snd.fst, z.snd.snd.snd.fst, z.snd.snd.snd.snd.fst, z.snd.snd.snd.snd.snd, ()) z.fst z.snd.fst).bind fun r7 => (LQ.pcm_Slice (z.snd.snd.fst, z.snd.snd.snd.fst, z.snd.snd.snd.snd.fst, z.snd.snd.snd.snd.snd, ()) z.snd.fst (lenV pl)).bind fun r8 =>
          (LQ.pcm_Join ((((List.replicate (3 : Nat) ((0 : Int), (0 : Int), (0 : Int), [], ())).set (0 : Nat) (r6.fst.fst, r6.fst.snd.fst, r6.fst.snd.snd.fst, r6.fst.snd.snd.snd.fst, ())).set (1 : Nat) (r7.fst.fst, r7.fst.snd.fst, r7.fst.snd.snd.fst, r7.fst.snd.snd.snd.fst, ())).set (2 : Nat) (r8.fst.fst, r8.fst.snd.fst, r8.fst.snd.snd.fst, r8.fst.snd.snd.snd.fst, ()))).bind fun r9 =>
            (bif r6.snd == (0 : Int) then (bif r7.snd == (0 : Int) then (bif r8.snd == (0 : Int) then (bif r9.snd == (0 : Int) then ((LQ.r5_Same (z.snd.snd.fst, z.snd.snd.snd.fst, z.snd.snd.snd.snd.fst, z.snd.snd.snd.snd.snd, ()) (r9.fst.fst, r9.fst.snd.fst, r9.fst.snd.snd.fst, r9.fst.snd.snd.snd.fst, ())).bind fun r10 => bif r10 then (LQ.awake05.bind fun r11 => some r11) else some false) else some false) else some false) else some false) else some false).bind fun r12 => some r12) = some true := by
      rintro a b hab hbn z rfl
      have s1 : sliceV r c w pl 0 (a : Int) = ((r, c, w, cutV pl 0 a, ()), 0) := by
        unfold sliceV lenV; rw [hp, decide_eq_false (by omega)]; rfl
      have s2 : sliceV r c w pl (a : Int) (b : Int) = ((r, c, w, cutV pl a b, ()), 0) := by
        unfold sliceV lenV; rw [hp, decide_eq_false (by omega)]; rfl
      have s3 : sliceV r c w pl (b : Int) (lenV pl) = ((r, c, w, cutV pl b (pl.getD 0 []).length, ()), 0) := by
        unfold sliceV lenV; rw [hp, decide_eq_false (by omega)]; rfl
      simp only [Slice_eq _ _ _ _ _ _ hl, s1, s2, s3, Option.bind_some]
      refine (congrArg (fun o => Option.bind o _) (cuts_join r c w pl a b hl hp hab hbn)).trans ?_
      simp only [Option.bind_some, beq_self_eq_true, cond_true, rSame_self r c w pl () () hl.n1 hl.n2, awake05_eq]
    obtain ⟨a, rfl⟩ : ∃ a : Nat, A = (a : Int) := ⟨A.toNat, by omega⟩
    obtain ⟨b, rfl⟩ : ∃ b : Nat, B = (b : Int) := ⟨B.toNat, by omega⟩
    unfold lenV at hA0 hB0
    by_cases h : (a : Int) > (b : Int)
    · rw [decide_eq_true h, cond_true, Option.bind_some]
      exact key b a (by omega) (by omega) _ rfl
    · rw [decide_eq_false h, cond_false, Option.bind_some]
      exact key a b (by omega) (by omega) _ rfl
end Go.Proofs.Ytipoadjhenjpiaa.Dg
end

section
set_option linter.unusedVariables false
set_option linter.unusedSimpArgs false
namespace Go.LM
theorem loopO_inv {D R : Type} {f : D → Option (D ⊕ R)} (P : Nat → D → Prop) (Q : R → Prop) (N : Nat) (hs : ∀ k, k < N → ∀ d, P k d → ∃ d', f d = some (.inl d') ∧ P (k + 1) d') (hf : ∀ d, P N d → ∃ r, f d = some (.inr r) ∧ Q r) : ∀ (j k : Nat), k + j = N → ∀ d, P k d → ∃ r, loopO f d = some r ∧ Q r
  | 0, k, e, d, h => by
    obtain rfl : k = N := by omega
    obtain ⟨r, h1, h2⟩ := hf d h
    exact ⟨r, loopO_done h1, h2⟩
  | j + 1, k, e, d, h => by
    obtain ⟨d', h1, h2⟩ := hs k (by omega) d h
    obtain ⟨r, h3, h4⟩ := loopO_inv P Q N hs hf j (k + 1) (by omega) d' h2
    exact ⟨r, (loopO_next h1).trans h3, h4⟩
/-- Planes of these lengths. -/
def Lens (L : Nat) (len : Nat → Nat) (pl : List (List Int)) : Prop := pl.length = L ∧ ∀ i, (pl.getD i []).length = len i
theorem Lens.set {L : Nat} {len : Nat → Nat} {pl : List (List Int)} (h : Lens L len pl) {k : Nat} {x : List Int} (hx : x.length = len k) : Lens L len (pl.set k x) := by
  refine ⟨by rw [List.length_set]; exact h.1, fun i => ?_⟩
  rw [getD_set]
  split
  · rename_i e; rw [hx, e.1]
  · exact h.2 i
end Go.LM
namespace Go.Proofs.Ytipoadjhenjpiaa.Dg
open Go.LM

theorem zP : ((0 : Int), (0 : Int), (0 : Int), ([] : List (List Int)), ()) = zPcm := rfl

theorem SliceW_eq (r c w : Int) (pl : List (List Int)) (f t : Int) (hl : PB pl) : LQ.pcm_SliceW (r, c, w, pl, ()) f t = some ((((sliceV r c w pl f t).1.1, (sliceV r c w pl f t).1.2.1, (sliceV r c w pl f t).1.2.2.1), (sliceV r c w pl f t).2), (sliceV r c w pl f t).1.2.2.2.1) := by
  unfold LQ.pcm_SliceW LQ.pcm_SliceW.t sliceV
  simp only [Tr.run_bind, Check_eq r c w pl hl, Option.bind_some, Tr.run_br, chk]
  cases hp : pcmOk r c w pl with
  | false => rfl
  | true =>
    have hok : okPl w pl = true := by unfold pcmOk at hp; simp only [Bool.and_eq_true] at hp; exact hp.2
    simp only [cond_true]
    rw [show ((0 : Int) != 0) = false from rfl, cond_false]
    refine (congrArg (fun o => Option.bind o _) (range3 (r, c, w, pl) (0, 0, 0) f t (lenV pl) _ (pLen_eq _ _ _ _ _) rfl)).trans ?_
    rw [Option.bind_some]
    by_cases h : f < 0 ∨ t < f ∨ t > lenV pl
    · rw [decide_eq_true h]; rfl
    · rw [decide_eq_false h]
      unfold lenV at h
      obtain ⟨a, rfl⟩ : ∃ a : Nat, f = (a : Int) := ⟨f.toNat, by omega⟩
      obtain ⟨b, rfl⟩ : ∃ b : Nat, t = (b : Int) := ⟨t.toNat, by omega⟩
      simp only [cond_false]
      refine (congrArg (fun o => Option.bind o _) (slice_loop r c w pl a b (0, 0, 0) hl (by omega) (fun k hk => by rw [okPl_len hok k hk]; omega))).trans ?_
      rfl

theorem parts_l1 (l : List PCM) (i : Nat) (row : List PCM) (x : Int × Int × Int) (hi : i < l.length) (hB : PB (l.getD i zPcm).2.2.2.1) :
    loopO (fun (d : Int × List (Int × Int × Int × List (List Int) × PUnit) × (Int × Int × Int) × List (List Int)) ↦ (LQ.PcmParts.l1 l (i : Int) d.fst d.snd.fst d.snd.snd.fst d.snd.snd.snd).run) ((0 : Int), row, x, []) = some (row, x, (l.getD i zPcm).2.2.2.1) := by
  have hn := hB.n1
  have := loopO_steps (f := fun (d : Int × List (Int × Int × Int × List (List Int) × PUnit) × (Int × Int × Int) × List (List Int)) ↦ (LQ.PcmParts.l1 l (i : Int) d.fst d.snd.fst d.snd.snd.fst d.snd.snd.snd).run) (fun k => ((k : Int), row, x, (l.getD i zPcm).2.2.2.1.take k)) (r := (row, x, (l.getD i zPcm).2.2.2.1)) (l.getD i zPcm).2.2.2.1.length ?_ ?_
  · simpa using this
  · intro k hk
    have h2 := hB.n2 k
    simp only [LQ.PcmParts.l1, Int.toNat_natCast]
    rw [zP]
    rw [Tr.run_need _ (by simp only [Int.ofNat_eq_natCast]; omega), Tr.run_br, decide_eq_true (by simp only [Int.ofNat_eq_natCast]; omega), cond_true, Tr.run_need _ (by simp only [Int.ofNat_eq_natCast]; omega), Tr.run_need _ (by simp only [Int.ofNat_eq_natCast]; omega), Tr.run_need _ (by omega), Tr.run_need _ (by rw [List.length_take, List.length_singleton]; omega), Tr.run_ret, w64_id (by omega), List.take_succ_eq_append_getElem hk, getD_lt _ _ hk]
    rfl
  · simp only [LQ.PcmParts.l1, Int.toNat_natCast]
    rw [zP]
    rw [Tr.run_need _ (by simp only [Int.ofNat_eq_natCast]; omega), Tr.run_br, decide_eq_false (by simp only [Int.ofNat_eq_natCast]; omega), cond_false, Tr.run_ret, List.take_length]

theorem parts_l0 (l : List PCM) (hlen : l.length ≤ 1048576) (hB : ∀ k, PB (l.getD k zPcm).2.2.2.1) :
    loopO (fun (d : Int × List (Int × Int × Int × List (List Int) × PUnit)) ↦ (LQ.PcmParts.l0 l d.fst d.snd).run) ((0 : Int), []) = some l := by
  have := loopO_steps (f := fun (d : Int × List (Int × Int × Int × List (List Int) × PUnit)) ↦ (LQ.PcmParts.l0 l d.fst d.snd).run) (fun k => ((k : Int), l.take k)) (r := l) l.length ?_ ?_
  · simpa using this
  · intro k hk
    simp only [LQ.PcmParts.l0, Int.toNat_natCast]
    rw [zP]
    rw [Tr.run_br, decide_eq_true (by simp only [Int.ofNat_eq_natCast]; omega), cond_true, Tr.run_need _ (by simp only [Int.ofNat_eq_natCast]; omega), Tr.run_bind, parts_l1 l k _ _ hk (hB k), Option.bind_some, Tr.run_need _ (by rw [List.length_take, List.length_set, List.length_replicate]; omega), Tr.run_ret, w64_id (by omega), List.take_succ_eq_append_getElem hk, ← getD_lt _ zPcm hk]
    rfl
  · simp only [LQ.PcmParts.l0]
    rw [Tr.run_br, decide_eq_false (by simp only [Int.ofNat_eq_natCast]; omega), cond_false, Tr.run_ret, List.take_length]

theorem parts_l4 (row : List PCM) (x : Int × Int × Int) (L : Nat) (len : Nat → Nat) (k : Nat) (hk : k < L) (hlen : len k ≤ 1048576) (pl : List (List Int)) (h : Lens L len pl) :
    ∃ r, loopO (fun (d : Int × List (Int × Int × Int × List (List Int) × PUnit) × (Int × Int × Int) × List (List Int)) ↦ (LQ.PcmParts.l4 (k : Int) d.fst d.snd.fst d.snd.snd.fst d.snd.snd.snd).run) ((0 : Int), row, x, pl) = some r ∧ ∃ x' pl', r = (row, x', pl') ∧ Lens L len pl' := by
  refine loopO_inv (f := fun (d : Int × List (Int × Int × Int × List (List Int) × PUnit) × (Int × Int × Int) × List (List Int)) ↦ (LQ.PcmParts.l4 (k : Int) d.fst d.snd.fst d.snd.snd.fst d.snd.snd.snd).run) (fun j d => ∃ pl', d = ((j : Int), row, x, pl') ∧ Lens L len pl') (fun r => ∃ x' pl', r = (row, x', pl') ∧ Lens L len pl') (len k) ?_ ?_ (len k) 0 (by omega) _ ⟨pl, rfl, h⟩
  · rintro j hj _ ⟨pl', rfl, h'⟩
    have h1 := h'.1
    have h2 := h'.2 k
    have h3 : Lens L len (pl'.set k (pl'.getD k [])) := h'.set h2
    have h4 := h3.2 k
    refine ⟨(((j + 1 : Nat) : Int), row, x, _), ?_, _, rfl, (h3.set (x := ((pl'.set k (pl'.getD k [])).getD k []).set j 77) (by rw [List.length_set]; exact h4))⟩
    simp only [LQ.PcmParts.l4, Int.toNat_natCast]
    rw [Tr.run_need _ (by simp only [Int.ofNat_eq_natCast]; omega), Tr.run_br, decide_eq_true (by simp only [Int.ofNat_eq_natCast]; omega), cond_true, Tr.run_need _ (by simp only [Int.ofNat_eq_natCast]; omega), Tr.run_need _ (by simp only [Int.ofNat_eq_natCast]; omega), Tr.run_ret, w64_id (by omega)]
    rfl
  · rintro _ ⟨pl', rfl, h'⟩
    have h1 := h'.1
    have h2 := h'.2 k
    refine ⟨(row, x, pl'.set k (pl'.getD k [])), ?_, _, _, rfl, h'.set h2⟩
    simp only [LQ.PcmParts.l4, Int.toNat_natCast]
    rw [Tr.run_need _ (by simp only [Int.ofNat_eq_natCast]; omega), Tr.run_br, decide_eq_false (by simp only [Int.ofNat_eq_natCast]; omega), cond_false, Tr.run_ret]

theorem parts_l3 (row : List PCM) (x : Int × Int × Int) (pl : List (List Int)) (hl : pl.length ≤ 1048576) (h2 : ∀ i, (pl.getD i []).length ≤ 1048576) :
    loopO (fun (d : Int × List (Int × Int × Int × List (List Int) × PUnit) × (Int × Int × Int) × List (List Int)) ↦ (LQ.PcmParts.l3 d.fst d.snd.fst d.snd.snd.fst d.snd.snd.snd).run) ((0 : Int), row, x, pl) = some row := by
  have key : ∃ r, loopO (fun (d : Int × List (Int × Int × Int × List (List Int) × PUnit) × (Int × Int × Int) × List (List Int)) ↦ (LQ.PcmParts.l3 d.fst d.snd.fst d.snd.snd.fst d.snd.snd.snd).run) ((0 : Int), row, x, pl) = some r ∧ r = row := by
   refine loopO_inv (f := fun (d : Int × List (Int × Int × Int × List (List Int) × PUnit) × (Int × Int × Int) × List (List Int)) ↦ (LQ.PcmParts.l3 d.fst d.snd.fst d.snd.snd.fst d.snd.snd.snd).run) (fun k d => ∃ x' pl', d = ((k : Int), row, x', pl') ∧ Lens pl.length (fun i => (pl.getD i []).length) pl') (fun r => r = row) pl.length ?_ ?_ pl.length 0 (by omega) ((0 : Int), row, x, pl) ⟨x, pl, rfl, rfl, fun _ => rfl⟩
   · rintro k hk _ ⟨x', pl', rfl, h'⟩
     have h1 := h'.1
     obtain ⟨r, e1, x2, pl2, rfl, h3⟩ := parts_l4 row x' pl.length _ k hk (h2 k) pl' h'
     refine ⟨(((k + 1 : Nat) : Int), row, x2, pl2), ?_, x2, pl2, rfl, h3⟩
     simp only [LQ.PcmParts.l3]
     rw [Tr.run_br, decide_eq_true (by simp only [Int.ofNat_eq_natCast]; omega), cond_true, Tr.run_bind]
     refine (congrArg (fun o => Option.bind o _) e1).trans ?_
     rw [Option.bind_some, Tr.run_ret, w64_id (by omega)]
     rfl
   · rintro _ ⟨x', pl', rfl, h'⟩
     have h1 := h'.1
     refine ⟨row, ?_, rfl⟩
     simp only [LQ.PcmParts.l3]
     rw [Tr.run_br, decide_eq_false (by simp only [Int.ofNat_eq_natCast]; omega), cond_false, Tr.run_ret]
  obtain ⟨r, h, rfl⟩ := key
  exact h

theorem sliceV_bd (r c w : Int) (pl : List (List Int)) (f t : Int) (hl : PB pl) : (sliceV r c w pl f t).1.2.2.2.1.length ≤ 1048576 ∧ ∀ i, ((sliceV r c w pl f t).1.2.2.2.1.getD i []).length ≤ 1048576 := by
  unfold sliceV
  cases pcmOk r c w pl with
  | false => exact ⟨by simp [zPcm], by simp [zPcm]⟩
  | true =>
    cases decide (f < 0 ∨ t < f ∨ t > lenV pl) with
    | true => exact ⟨by simp [zPcm], by simp [zPcm]⟩
    | false =>
      have := PB_cut hl f.toNat t.toNat
      exact ⟨this.n1, this.n2⟩
theorem joinV_bd (l : List PCM) (hlen : l.length ≤ 1048576) (hB : ∀ k, PB (l.getD k zPcm).2.2.2.1) : (joinV l).1.2.2.2.1.length ≤ 1048576 ∧ ∀ i, ((joinV l).1.2.2.2.1.getD i []).length ≤ 1099511627776 := by
  unfold joinV
  cases l.length == 0 with
  | true => exact ⟨by simp [zPcm], by simp [zPcm]⟩
  | false =>
    cases errJ (l.getD 0 zPcm) l == 0 with
    | false => exact ⟨by simp [zPcm], by simp [zPcm]⟩
    | true =>
      refine ⟨by rw [cond_false, cond_true, accV_len]; exact (hB 0).n1, fun i => ?_⟩
      rw [cond_false, cond_true]
      by_cases hi : i < (l.getD 0 zPcm).2.2.2.1.length
      · simp only []
        rw [accV_getD _ _ _ _ _ hi]
        have := flatMap_le' (l.take (if i < 0 then l.length + 1 else l.length)) (fun p => p.2.2.2.1.getD i []) 1048576 (fun p hp => by
          obtain ⟨j, hj, rfl⟩ := getD_mem (z := zPcm) (List.mem_of_mem_take hp)
          exact (hB j).n2 i)
        have h2 : (l.take (if i < 0 then l.length + 1 else l.length)).length * 1048576 ≤ 1048576 * 1048576 := Nat.mul_le_mul_right _ (by rw [List.length_take]; omega)
        omega
      · rw [List.getD_eq_getElem?_getD, List.getElem?_eq_none (by simp only [accV_len]; omega)]; simp

theorem PcmParts_law (l : List PCM) (f t : Int) (hlen : l.length ≤ 1048576) (hB : ∀ k, PB (l.getD k zPcm).2.2.2.1) (hs : sumL l ≤ 1048576) : LQ.PcmParts l f t = some true := by
  unfold LQ.PcmParts LQ.PcmParts.t
  obtain ⟨j1, j2⟩ := joinV_bd l hlen hB
  rw [Tr.run_need _ (by simp only [Int.ofNat_eq_natCast]; omega), Tr.run_bind, parts_l0 l hlen hB, Option.bind_some, Tr.run_bind, Join_eq l hlen hB hs, Option.bind_some, Tr.run_bind, rJoin_eq l hlen hB hs, Option.bind_some, Tr.run_bind, Tr.run_bind, rSame_two _ _ j1 j2, Option.bind_some]
  simp only [beq_self_eq_true, Bool.and_self, Bool.not_true, Tr.run_br, cond_false, Tr.run_ret, bne_self_eq_false, Option.bind_some, Tr.run_bind]
  have hz : ∀ k, (l.getD k zPcm).2.2.2.1.length ≤ 1048576 ∧ ∀ i, ((l.getD k zPcm).2.2.2.1.getD i []).length ≤ 1099511627776 := fun k => ⟨(hB k).n1, fun i => Nat.le_trans ((hB k).n2 i) (by decide)⟩
  have := loopO_steps (f := fun (d : Int × List (Int × Int × Int × List (List Int) × PUnit)) ↦ (LQ.PcmParts.l2 l f t d.fst d.snd).run) (fun k => ((k : Int), l)) (r := .inr ()) l.length ?_ ?_
  · refine (congrArg (fun o => Option.bind o _) this).trans ?_
    simp only [Option.bind_some, Tr.run_csr, Tr.run_bind, awake05_eq]
    rfl
  · intro k hk
    have b1 := sliceV_bd (l.getD k zPcm).1 (l.getD k zPcm).2.1 (l.getD k zPcm).2.2.1 (l.getD k zPcm).2.2.2.1 f t (hB k)
    have eW : LQ.pcm_SliceW (l.getD k zPcm) f t = _ := SliceW_eq (l.getD k zPcm).1 (l.getD k zPcm).2.1 (l.getD k zPcm).2.2.1 (l.getD k zPcm).2.2.2.1 f t (hB k)
    have eR : LQ.r5_Slice (l.getD k zPcm) f t = _ := rSlice_eq (l.getD k zPcm).1 (l.getD k zPcm).2.1 (l.getD k zPcm).2.2.1 (l.getD k zPcm).2.2.2.1 f t (hB k)
    generalize sliceV (l.getD k zPcm).1 (l.getD k zPcm).2.1 (l.getD k zPcm).2.2.1 (l.getD k zPcm).2.2.2.1 f t = v at b1 eW eR
    have n1 : (0 : Int) ≤ (k : Int) ∧ (k : Int) < Int.ofNat l.length := by simp only [Int.ofNat_eq_natCast]; omega
    have n2 : (0 : Int) ≤ 0 ∧ (0 : Int) < Int.ofNat l.length := by simp only [Int.ofNat_eq_natCast]; omega
    simp only [LQ.PcmParts.l2, Int.toNat_natCast]
    rw [zP]
    rw [Tr.run_br, decide_eq_true (by simp only [Int.ofNat_eq_natCast]; omega), cond_true, Tr.run_need _ n1, Tr.run_bind, eW, Option.bind_some, Tr.run_need _ n1, Tr.run_bind, eR, Option.bind_some, Tr.run_bind, Tr.run_bind, rSame_two _ _ b1.1 (fun i => Nat.le_trans (b1.2 i) (by decide)), Option.bind_some]
    simp only [beq_self_eq_true, Bool.and_self, Bool.not_true, Tr.run_br, cond_false, bne_self_eq_false, Tr.run_need _ n1, Tr.run_need _ n2, Tr.run_bind, pSame_two _ _ (hz k).1 (hz k).2, rSame_two _ _ (hz k).1 (hz k).2, Option.bind_some, Tr.run_ret]
    rw [parts_l3 l _ _ b1.1 b1.2, Option.bind_some]
    simp only [Tr.run_need _ n1, Tr.run_bind, rSame_two _ _ (hz k).1 (hz k).2, Option.bind_some, beq_self_eq_true, Bool.and_self, Bool.not_true, Tr.run_br, cond_false, Tr.run_ret]
    rw [w64_id (by omega)]
    rfl
  · simp only [LQ.PcmParts.l2]
    rw [Tr.run_br, decide_eq_false (by simp only [Int.ofNat_eq_natCast]; omega), cond_false, Tr.run_ret]
end Go.Proofs.Ytipoadjhenjpiaa.Dg
end

