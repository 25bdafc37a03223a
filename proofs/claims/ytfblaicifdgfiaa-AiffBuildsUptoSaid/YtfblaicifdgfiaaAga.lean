/- Aga: AgB AgC AgD AgE AgF AgG AgH AgI AgJ AgK. -/
import Derived.Test.YtfblaicifdgfiaaLmH
import Derived.Test.YtfblaicifdgfiaaAfP
section
set_option linter.unusedVariables false
set_option linter.unusedSimpArgs false
namespace Go.LM
def leB (n w : Nat) : List UInt8 := (List.range w).map fun i => UInt8.ofNat (n / 256 ^ i)
def leV : List UInt8 → Nat
  | [] => 0
  | b :: l => b.toNat + 256 * leV l
def beV (s : List UInt8) : Nat := s.foldl (fun n b => n * 256 + b.toNat) 0
theorem leB_len (n w : Nat) : (leB n w).length = w := by simp [leB]
theorem beV_rev : ∀ (s : List UInt8), beV s.reverse = leV s
  | [] => rfl
  | b :: l => by
    have := beV_rev l
    unfold beV at this ⊢
    rw [List.reverse_cons, List.foldl_append, this]
    simp only [List.foldl_cons, List.foldl_nil, leV]
    omega
theorem leV_lt : ∀ (s : List UInt8), leV s < 256 ^ s.length
  | [] => by decide
  | b :: l => by
    have h1 := leV_lt l
    have h2 := b.toNat_lt
    rw [leV, List.length_cons, Nat.pow_succ]
    omega
theorem beV_lt (s : List UInt8) : beV s < 256 ^ s.length := by
  have := leV_lt s.reverse
  rw [← beV_rev, List.reverse_reverse, List.length_reverse] at this
  exact this
theorem beV_take (s : List UInt8) (k : Nat) (h : k < s.length) : beV (s.take (k + 1)) = beV (s.take k) * 256 + (s.getD k 0).toNat := by
  unfold beV
  rw [List.take_succ_eq_append_getElem h, List.foldl_append]
  simp only [getD_lt _ _ h, List.foldl_cons, List.foldl_nil]
theorem byte_div (n m : Nat) : (((n : Int) / (m : Int)) % 256).toNat = n / m % 256 := by
  rw [← Int.natCast_ediv]; omega
theorem ofNat_mod (m : Nat) : UInt8.ofNat (m % 256) = UInt8.ofNat m := by
  apply UInt8.toNat_inj.1; rw [UInt8.toNat_ofNat', UInt8.toNat_ofNat']; omega
theorem pow256_le {k n : Nat} (h : k ≤ n) : 256 ^ k ≤ 256 ^ n := Nat.pow_le_pow_right (by decide) h
end Go.LM
namespace Go.Proofs.Ytfblaicifdgfiaa.Dg
open Go.LM
theorem turned_eq (s : List UInt8) (h : s.length ≤ 140737488355328) : LQ.r2_turned s = some s.reverse := by
  unfold LQ.r2_turned LQ.r2_turned.t
  rw [Tr.run_need _ (by simp; omega), Tr.run_bind]
  rw [show (loopO (fun (d : Int × List UInt8) ↦ (LQ.r2_turned.l0 s d.fst d.snd).run) ((0 : Int), List.replicate (Int.ofNat s.length).toNat (0 : UInt8))) = some s.reverse from ?_]
  · rfl
  · have := loopO_steps (f := fun (d : Int × List UInt8) ↦ (LQ.r2_turned.l0 s d.fst d.snd).run) (fun k => ((k : Int), List.replicate (s.length - k) (0 : UInt8) ++ (s.take k).reverse)) (r := s.reverse) s.length ?_ ?_
    · simpa using this
    · intro k hk
      simp only [LQ.r2_turned.l0]
      rw [Tr.run_br, decide_eq_true (by simp; omega), cond_true, Tr.run_need _ (by simp; omega)]
      have e : w64 (w64 (Int.ofNat s.length - 1) - (k : Int)) = ((s.length - 1 - k : Nat) : Int) := by
        rw [w64_id (x := Int.ofNat s.length - 1) (by simp; omega), w64_id (by simp; omega)]; simp; omega
      rw [e, Tr.run_need _ (by simp; omega), Tr.run_ret, w64_id (by omega)]
      have e2 : s.length - k = (s.length - 1 - k) + 1 := by omega
      rw [e2, Int.toNat_natCast, set_fill_back, Int.toNat_natCast, List.take_succ_eq_append_getElem hk, List.reverse_append]
      simp only [List.reverse_cons, List.reverse_nil, List.nil_append, List.singleton_append, getD_lt _ _ hk]
      rw [show s.length - (k + 1) = s.length - 1 - k by omega]
      rfl
    · simp only [LQ.r2_turned.l0]
      rw [Tr.run_br, decide_eq_false (by simp), cond_false, Tr.run_ret]
      simp
theorem FromBe_eq (s : List UInt8) (h : s.length < 8) : LQ.r2_FromBe s = some ((beV s : Nat) : Int) := by
  unfold LQ.r2_FromBe LQ.r2_FromBe.t
  have hb : ∀ k < s.length, beV (s.take k) < 256 ^ 6 := fun k hk => Nat.lt_of_lt_of_le (beV_lt _) (pow256_le (by simp; omega))
  rw [Tr.run_bind, Tr.run_br, decide_eq_false (by simp; omega), cond_false, Tr.run_br, show (Int.ofNat s.length == (8 : Int)) = false by simp; omega, cond_false, Tr.run_ret]
  simp only [Option.bind_some, Tr.run_br, cond_false, Tr.run_bind]
  rw [show (loopO (fun (d : Int × Int) ↦ (LQ.r2_FromBe.l0 s d.fst d.snd).run) ((0 : Int), (0 : Int))) = some ((beV s : Nat) : Int) from ?_]
  · rfl
  · have := loopO_steps (f := fun (d : Int × Int) ↦ (LQ.r2_FromBe.l0 s d.fst d.snd).run) (fun k => (((beV (s.take k) : Nat) : Int), (k : Int))) (r := ((beV s : Nat) : Int)) s.length ?_ ?_
    · simpa [beV] using this
    · intro k hk
      simp only [LQ.r2_FromBe.l0]
      have h1 := hb k hk
      have h2 := (s.getD k 0).toNat_lt
      rw [Tr.run_br, decide_eq_true (by simp; omega), cond_true, Tr.run_need _ (by simp; omega), Tr.run_ret, w64_id (x := (k : Int) + 1) (by omega), Int.toNat_natCast]
      simp only [Int.ofNat_eq_natCast]
      rw [w64_id (x := ((s.getD k 0).toNat : Int)) (by omega), w64_id (x := (beV (s.take k) : Int) * 256) (by omega), w64_id (by omega), beV_take s k hk]
      simp only [Int.natCast_add, Int.natCast_mul]; rfl
    · simp only [LQ.r2_FromBe.l0]
      rw [Tr.run_br, decide_eq_false (by simp), cond_false, Tr.run_ret]
      simp
theorem FromLe_eq (s : List UInt8) (h : s.length < 8) : LQ.r2_FromLe s = some ((leV s : Nat) : Int) := by
  unfold LQ.r2_FromLe LQ.r2_FromLe.t
  rw [Tr.run_bind, turned_eq s (by omega), Option.bind_some, Tr.run_bind, FromBe_eq _ (by simpa using h), beV_rev]
  rfl
theorem p2_8 (k : Nat) (h : k ≤ 8) : p2 ((8 * k : Nat) : Int) 64 = ((256 ^ k : Nat) : Int) := by
  unfold p2
  rw [Int.toNat_natCast, Nat.min_eq_left (by omega), show (2:Nat) ^ (8 * k) = 256 ^ k by rw [Nat.pow_mul]]
theorem Le_loop (n : Nat) (w : Nat) (hw : w ≤ 8) : loopO (fun (d : Int × List UInt8) ↦ (LQ.bytes_Le.l0 n w d.fst d.snd).run) ((0 : Int), List.replicate w (0 : UInt8)) = some (leB n w) := by
  have := loopO_steps (f := fun (d : Int × List UInt8) ↦ (LQ.bytes_Le.l0 n w d.fst d.snd).run) (fun k => ((k : Int), (List.range k).map (fun i => UInt8.ofNat (n / 256 ^ i)) ++ List.replicate (w - k) (0 : UInt8))) (r := leB n w) w ?_ ?_
  · simpa using this
  · intro k hk
    simp only [LQ.bytes_Le.l0]
    rw [Tr.run_br, decide_eq_true (by omega), cond_true, w64_id (x := 8 * (k : Int)) (by omega), Tr.run_need _ (by omega), Tr.run_need _ (by simp only [List.length_append, List.length_map, List.length_range, List.length_replicate, Int.ofNat_eq_natCast]; omega), Tr.run_ret, w64_id (by omega)]
    rw [Int.toNat_natCast, show (8 * (k : Int)) = ((8 * k : Nat) : Int) by omega, p2_8 k (by omega), show w - k = (w - (k + 1)) + 1 by omega]
    rw [show (((n : Int) / ((256 ^ k : Nat) : Int)) % 256).toNat = n / 256 ^ k % 256 from byte_div _ _]
    rw [show UInt8.ofNat (n / 256 ^ k % 256) = UInt8.ofNat (n / 256 ^ k) from ofNat_mod _]
    rw [set_fill (fun i => UInt8.ofNat (n / 256 ^ i))]
    rfl
  · simp only [LQ.bytes_Le.l0]
    rw [Tr.run_br, decide_eq_false (by simp), cond_false, Tr.run_ret]
    simp [leB]
theorem bytes_Le_eq (n : Nat) (w : Nat) (h1 : 1 ≤ w) (hw : w ≤ 8) (hn : n < 9223372036854775808) (hf : w < 8 → n < 256 ^ w) : LQ.bytes_Le n w = some (leB n w, 0) := by
  unfold LQ.bytes_Le LQ.bytes_Le.t
  have e : (Tr.br (decide ((w : Int) < (8 : Int))) (Tr.need ((0 : Int) ≤ w64 ((8 : Int) * (w : Int))) (Tr.ret (decide ((n : Int) ≥ w64 ((1 : Int) * p2 (w64 ((8 : Int) * (w : Int))) (64 : Nat)))))) (Tr.ret false)).run = some false := by
    rw [Tr.run_br]
    by_cases h : w < 8
    · have hp : 256 ^ w ≤ 256 ^ 7 := pow256_le (by omega)
      have := hf h
      rw [decide_eq_true (by omega), cond_true, w64_id (by omega), Tr.run_need _ (by omega), Tr.run_ret, show (8 * (w : Int)) = ((8 * w : Nat) : Int) by omega, p2_8 w hw, w64_id (by omega)]
      rw [decide_eq_false (by omega)]
    · rw [decide_eq_false (by omega), cond_false, Tr.run_ret]
  rw [Tr.run_bind, Tr.run_br, decide_eq_false (by omega), cond_false, Tr.run_br, decide_eq_false (by omega), cond_false, Tr.run_br, decide_eq_false (by omega), cond_false, e]
  simp only [Option.bind_some, Tr.run_br, cond_false]
  rw [Tr.run_need _ (by omega), Tr.run_bind, Int.toNat_natCast, Le_loop n w hw]
  rfl
theorem and_mask (n m : Nat) (hn : n < 18446744073709551616) (hm : m ≤ 63) : bitsI Go.BinOp.and Go.IntKind.i64 (n : Int) (((2 ^ m - 1 : Nat) : Nat) : Int) = ((n % 2 ^ m : Nat) : Int) := by
  have h1 : 2 ^ m ≤ 2 ^ 63 := Nat.pow_le_pow_right (by decide) hm
  unfold bitsI
  simp only [BitVec.ofInt_natCast, BitVec.toNat_and, BitVec.toNat_ofNat]
  rw [show IntKind.bits .i64 = 64 from rfl, Nat.mod_eq_of_lt (a := n) (by simpa using hn), Nat.mod_eq_of_lt (a := 2 ^ m - 1) (by omega), Nat.and_two_pow_sub_one_eq_mod]
theorem leB_succ (n k : Nat) : leB n (k + 1) = leB n k ++ [UInt8.ofNat (n / 256 ^ k)] := by
  unfold leB; rw [List.range_succ, List.map_append]; rfl
theorem fits_eq (n : Nat) (w : Nat) (h1 : 1 ≤ w) (hw : w ≤ 8) (hf : w < 8 → n < 256 ^ w) : LQ.r2_fits n w = some true := by
  unfold LQ.r2_fits LQ.r2_fits.t
  rw [Tr.run_bind, Tr.run_br, decide_eq_true (by omega), cond_true, Tr.run_br, decide_eq_true (by omega), cond_true, Tr.run_br, decide_eq_true (by omega), cond_true, Tr.run_br]
  by_cases h : w = 8
  · subst h; rfl
  · have := hf (by omega)
    rw [show ((w : Int) == 8) = false by simp; omega, cond_false, w64_id (by omega), u64_id (by omega), Tr.run_need _ (by omega), Tr.run_ret, show (8 * (w : Int)) = ((8 * w : Nat) : Int) by omega, p2_8 w hw]
    rw [show ((n : Int) / ((256 ^ w : Nat) : Int)) = 0 by rw [← Int.natCast_ediv, Nat.div_eq_of_lt this]; rfl]
    rfl
theorem Be_eq (n : Nat) (w : Nat) (h1 : 1 ≤ w) (hw : w ≤ 8) (hn : n < 9223372036854775808) (hf : w < 8 → n < 256 ^ w) : LQ.r2_Be n w = some ((leB n w).reverse, 0) := by
  unfold LQ.r2_Be LQ.r2_Be.t
  rw [Tr.run_bind, fits_eq n w h1 hw hf]
  simp only [Option.bind_some, Tr.run_br, Bool.not_true, cond_false]
  rw [Tr.run_need _ (by omega), Tr.run_bind, Int.toNat_natCast]
  have := loopO_steps (f := fun (d : Int × Int × List UInt8) ↦ (LQ.r2_Be.l0 d.fst d.snd.fst d.snd.snd).run) (fun k => (((n / 256 ^ k : Nat) : Int), (w : Int) - 1 - (k : Int), List.replicate (w - k) (0 : UInt8) ++ (leB n k).reverse)) (r := (leB n w).reverse) w ?_ ?_
  · rw [show w64 ((w : Int) - 1) = (w : Int) - 1 - ((0 : Nat) : Int) by rw [w64_id (by omega)]; omega]
    rw [show ((n / 256 ^ 0 : Nat) : Int) = (n : Int) by simp] at this
    rw [show List.replicate (w - 0) (0 : UInt8) ++ (leB n 0).reverse = List.replicate w 0 by simp [leB]] at this
    rw [this]
    rfl
  · intro k hk
    simp only [LQ.r2_Be.l0]
    have hd : n / 256 ^ k ≤ n := Nat.div_le_self _ _
    rw [Tr.run_br, decide_eq_true (by omega), cond_true, Tr.run_need _ (by simp only [List.length_append, List.length_replicate, Int.ofNat_eq_natCast]; omega), Tr.run_ret]
    have e := and_mask (n / 256 ^ k) 8 (by omega) (by decide)
    rw [show (((2 ^ 8 - 1 : Nat) : Nat) : Int) = 255 from rfl] at e
    rw [e, w64_id (by omega), w64_id (by omega)]
    rw [show (((n / 256 ^ k % 2 ^ 8 : Nat) : Int) % 256).toNat = n / 256 ^ k % 256 by omega, ofNat_mod, show ((w : Int) - 1 - (k : Int)).toNat = w - 1 - k by omega, show w - k = (w - 1 - k) + 1 by omega, set_fill_back, leB_succ, List.reverse_append]
    rw [show w - (k + 1) = w - 1 - k by omega, show ((n / 256 ^ k : Nat) : Int) / 256 = ((n / 256 ^ (k + 1) : Nat) : Int) by rw [Nat.pow_succ, ← Nat.div_div_eq_div_mul]; omega]
    rw [show (w : Int) - 1 - ((k + 1 : Nat) : Int) = (w : Int) - 1 - (k : Int) - 1 by omega]
    rfl
  · simp only [LQ.r2_Be.l0]
    rw [Tr.run_br, decide_eq_false (by omega), cond_false, Tr.run_ret]
    simp
theorem Le_eq (n : Nat) (w : Nat) (h1 : 1 ≤ w) (hw : w ≤ 8) (hn : n < 9223372036854775808) (hf : w < 8 → n < 256 ^ w) : LQ.r2_Le n w = some (leB n w, 0) := by
  unfold LQ.r2_Le LQ.r2_Le.t
  rw [Tr.run_bind, Be_eq n w h1 hw hn hf, Option.bind_some, Tr.run_bind, turned_eq _ (by rw [List.length_reverse, leB_len]; omega), List.reverse_reverse]
  rfl
end Go.Proofs.Ytfblaicifdgfiaa.Dg
end

section
set_option linter.unusedVariables false
set_option linter.unusedSimpArgs false
namespace Go.LM
def swV (s : List UInt8) (k : Nat) : List UInt8 := (List.range s.length).map fun i => if i < k ∨ s.length ≤ i + k then s.getD (s.length - 1 - i) 0 else s.getD i 0
theorem swV_len (s : List UInt8) (k : Nat) : (swV s k).length = s.length := by simp [swV]
theorem swV_getD (s : List UInt8) (k i : Nat) (h : i < s.length) : (swV s k).getD i 0 = if i < k ∨ s.length ≤ i + k then s.getD (s.length - 1 - i) 0 else s.getD i 0 := by
  rw [getD_lt _ _ (by rw [swV_len]; exact h)]; simp [swV]
theorem swV_zero (s : List UInt8) : swV s 0 = s := by
  apply List.ext_getElem (swV_len s 0)
  intro i h1 h2
  rw [← getD_lt _ 0 h1, swV_getD s 0 i h2, if_neg (by omega), getD_lt _ _ h2]
theorem swV_half (s : List UInt8) : swV s (s.length / 2) = s.reverse := by
  apply List.ext_getElem (by rw [swV_len, List.length_reverse])
  intro i h1 h2
  have hi : i < s.length := by rwa [swV_len] at h1
  rw [← getD_lt _ 0 h1, swV_getD s _ i hi, List.getElem_reverse]
  by_cases h : i < s.length / 2 ∨ s.length ≤ i + s.length / 2
  · rw [if_pos h, getD_lt _ _ (show s.length - 1 - i < s.length by omega)]
  · rw [if_neg h, getD_lt _ _ hi]
    congr 1; omega
theorem swV_step (s : List UInt8) (k : Nat) (hk : k < s.length / 2) : ((swV s k).set k ((swV s k).getD (s.length - 1 - k) 0)).set (s.length - 1 - k) ((swV s k).getD k 0) = swV s (k + 1) := by
  rw [swV_getD s k _ (by omega), if_neg (by omega), swV_getD s k k (by omega), if_neg (by omega)]
  apply List.ext_getElem (by simp [swV_len])
  intro i h1 h2
  have hi : i < s.length := by rwa [swV_len] at h2
  rw [List.getElem_set, List.getElem_set]
  conv => rhs; rw [← getD_lt _ 0 h2]
  rw [swV_getD s _ i hi]
  by_cases e1 : s.length - 1 - k = i
  · rw [if_pos e1, if_pos (by omega), show s.length - 1 - i = k by omega]
  · rw [if_neg e1]
    by_cases e2 : k = i
    · subst e2
      rw [if_pos rfl, if_pos (by omega)]
    · rw [if_neg e2, ← getD_lt _ 0 (by rw [swV_len]; exact hi), swV_getD s k i hi]
      by_cases e3 : i < k ∨ s.length ≤ i + k
      · rw [if_pos e3, if_pos (by omega)]
      · rw [if_neg e3, if_neg (by omega)]
theorem or_split_u (a b i : Nat) (hb : b < 2 ^ i) (h : a * 2 ^ i + b < 18446744073709551616) : bitsI Go.BinOp.or Go.IntKind.u64 ((a * 2 ^ i : Nat) : Int) (b : Int) = ((a * 2 ^ i + b : Nat) : Int) := by
  unfold bitsI
  simp only [BitVec.ofInt_natCast, BitVec.toNat_or, BitVec.toNat_ofNat]
  rw [show IntKind.bits .u64 = 64 from rfl, Nat.mod_eq_of_lt (a := a * 2 ^ i) (by omega), Nat.mod_eq_of_lt (a := b) (by omega)]
  have := Nat.shiftLeft_add_eq_or_of_lt hb a
  rw [Nat.shiftLeft_eq] at this
  rw [this]
end Go.LM
namespace Go.Proofs.Ytfblaicifdgfiaa.Dg
open Go.LM
theorem turn_eq (s : List UInt8) (h : s.length ≤ 140737488355328) : LQ.bytes_turn s = some s.reverse := by
  unfold LQ.bytes_turn LQ.bytes_turn.t
  rw [Tr.run_bind]
  have ht : w64 ((Int.ofNat s.length).tdiv 2) = ((s.length / 2 : Nat) : Int) := by
    rw [Int.tdiv_eq_ediv_of_nonneg (by simp only [Int.ofNat_eq_natCast]; omega), w64_id (by simp only [Int.ofNat_eq_natCast]; omega)]; simp only [Int.ofNat_eq_natCast]; omega
  have := loopO_steps (f := fun (d : Int × List UInt8) ↦ (LQ.bytes_turn.l0 s d.fst d.snd).run) (fun k => ((k : Int), swV s k)) (r := s.reverse) (s.length / 2) ?_ ?_
  · simp only [swV_zero] at this
    refine (congrArg (fun o => Option.bind o _) this).trans ?_
    rfl
  · intro k hk
    simp only [LQ.bytes_turn.l0]
    have e : w64 (w64 (Int.ofNat (swV s k).length - 1) - (k : Int)) = ((s.length - 1 - k : Nat) : Int) := by
      rw [swV_len, w64_id (x := Int.ofNat s.length - 1) (by simp only [Int.ofNat_eq_natCast]; omega), w64_id (by simp only [Int.ofNat_eq_natCast]; omega)]
      simp only [Int.ofNat_eq_natCast]; omega
    rw [e, ht, Tr.run_br, decide_eq_true (by omega), cond_true, Tr.run_need _ (by rw [swV_len]; simp only [Int.ofNat_eq_natCast]; omega), Tr.run_need _ (by rw [swV_len]; simp only [Int.ofNat_eq_natCast]; omega), Tr.run_need _ (by rw [swV_len]; simp only [Int.ofNat_eq_natCast]; omega), Tr.run_need _ (by rw [List.length_set, swV_len]; simp only [Int.ofNat_eq_natCast]; omega), Tr.run_ret, Int.toNat_natCast, Int.toNat_natCast, w64_id (by omega), swV_step s k hk]
    rfl
  · simp only [LQ.bytes_turn.l0]
    rw [ht, Tr.run_br, decide_eq_false (by omega), cond_false, Tr.run_ret, swV_half]
theorem bFromBe_eq (s : List UInt8) (h : s.length < 8) : LQ.bytes_FromBe s = some ((beV s : Nat) : Int) := by
  unfold LQ.bytes_FromBe LQ.bytes_FromBe.t
  have hb : ∀ k < s.length, beV (s.take k) < 256 ^ 6 := fun k hk => Nat.lt_of_lt_of_le (beV_lt _) (pow256_le (by simp; omega))
  have hs : beV s < 256 ^ 7 := Nat.lt_of_lt_of_le (beV_lt _) (pow256_le (by omega))
  rw [Tr.run_br, decide_eq_false (by simp only [Int.ofNat_eq_natCast]; omega), cond_false, Tr.run_bind]
  have := loopO_steps (f := fun (d : Int × Int) ↦ (LQ.bytes_FromBe.l0 s d.fst d.snd).run) (fun k => (((beV (s.take k) : Nat) : Int), (k : Int))) (r := ((beV s : Nat) : Int)) s.length ?_ ?_
  · have e0 : beV (s.take 0) = 0 := rfl
    simp only [e0] at this
    refine (congrArg (fun o => Option.bind o _) this).trans ?_
    rw [Option.bind_some, Tr.run_br, decide_eq_false (by omega), cond_false, Tr.run_ret, w64_id (by omega)]
  · intro k hk
    simp only [LQ.bytes_FromBe.l0]
    have h1 := hb k hk
    have h2 := (s.getD k 0).toNat_lt
    rw [Tr.run_br, decide_eq_true (by simp only [Int.ofNat_eq_natCast]; omega), cond_true, Tr.run_need _ (by simp only [Int.ofNat_eq_natCast]; omega), Tr.run_ret, w64_id (x := (k : Int) + 1) (by omega), Int.toNat_natCast]
    simp only [Int.ofNat_eq_natCast]
    rw [u64_id (x := ((s.getD k 0).toNat : Int)) (by omega), u64_id (x := ((beV (s.take k) : Nat) : Int) * 256) (by omega), show ((beV (s.take k) : Nat) : Int) * 256 = ((beV (s.take k) * 2 ^ 8 : Nat) : Int) by omega, or_split_u _ _ 8 (by omega) (by omega), u64_id (by omega), beV_take s k hk]
    rfl
  · simp only [LQ.bytes_FromBe.l0]
    rw [Tr.run_br, decide_eq_false (by simp only [Int.ofNat_eq_natCast]; omega), cond_false, Tr.run_ret, List.take_length]
theorem bFromLe_eq (s : List UInt8) (h : s.length < 8) : LQ.bytes_FromLe s = some ((leV s : Nat) : Int) := by
  unfold LQ.bytes_FromLe LQ.bytes_FromLe.t
  rw [Tr.run_bind, turn_eq s (by omega), Option.bind_some, Tr.run_bind, bFromBe_eq _ (by simpa using h), beV_rev]
  rfl
end Go.Proofs.Ytfblaicifdgfiaa.Dg
end

section
set_option linter.unusedVariables false
set_option linter.unusedSimpArgs false
namespace Go.LM
abbrev ChunkD := List UInt8 × List UInt8 × Int × PUnit
def zCh : ChunkD := ([], [], 0, ())
def idB (b : UInt8) : Bool := decide (32 ≤ b.toNat ∧ b.toNat ≤ 126)
def nameV (s : List UInt8) : Bool := s.all idB && s.length == 4
end Go.LM
namespace Go.Proofs.Ytfblaicifdgfiaa.Dg
open Go.LM
theorem name_eq (s : List UInt8) (h : s.length ≤ 1099511627776) : LQ.name s = some (nameV s) := by
  unfold LQ.name LQ.name.t nameV
  rw [Tr.run_bind]
  have := loopAL (f := fun (d : Int) ↦ (LQ.name.l0 s d).run) (fun k => (k : Int)) s 0 idB (.inl false) (.inr ()) ?_ ?_
  · refine (congrArg (fun o => Option.bind o _) this).trans ?_
    rw [Option.bind_some]
    cases s.all idB with
    | false => rfl
    | true =>
      rw [cond_true, Tr.run_csr, Tr.run_ret, Bool.true_and]
      congr 1
      rw [Bool.eq_iff_iff]; simp only [Int.ofNat_eq_natCast, beq_iff_eq]; omega
  · intro k hk
    simp only [LQ.name.l0]
    rw [Tr.run_br, decide_eq_true (by simp only [Int.ofNat_eq_natCast]; omega), cond_true, Tr.run_bind, Tr.run_need _ (by simp only [Int.ofNat_eq_natCast]; omega), Tr.run_br, Tr.run_need _ (by simp only [Int.ofNat_eq_natCast]; omega), Tr.run_ret, Tr.run_ret, Int.toNat_natCast, w64_id (by omega)]
    simp only [Int.ofNat_eq_natCast]
    unfold idB
    by_cases h1 : 32 ≤ (s.getD k 0).toNat
    · rw [decide_eq_false (p := ((s.getD k 0).toNat : Int) < 32) (by omega), cond_false, Option.bind_some, Tr.run_br]
      by_cases h2 : (s.getD k 0).toNat ≤ 126
      · rw [decide_eq_false (p := ((s.getD k 0).toNat : Int) > 126) (by omega), decide_eq_true (p := _ ∧ _) ⟨h1, h2⟩]; rfl
      · rw [decide_eq_true (p := ((s.getD k 0).toNat : Int) > 126) (by omega), decide_eq_false (p := _ ∧ _) (by omega)]; rfl
    · rw [decide_eq_true (p := ((s.getD k 0).toNat : Int) < 32) (by omega), decide_eq_false (p := _ ∧ _) (by omega)]; rfl
  · simp only [LQ.name.l0]
    rw [Tr.run_br, decide_eq_false (by simp only [Int.ofNat_eq_natCast]; omega), cond_false, Tr.run_ret]
theorem Id_eq (s : List UInt8) (h : s.length ≤ 1099511627776) : LQ.r6_Id s = some (nameV s) := name_eq s h
end Go.Proofs.Ytfblaicifdgfiaa.Dg
end

section
set_option linter.unusedVariables false
set_option linter.unusedSimpArgs false
namespace Go.LM
def numV (big : Bool) (t : List UInt8) : Nat := bif big then beV t else leV t
theorem numV_lt (big : Bool) (t : List UInt8) : numV big t < 256 ^ t.length := by
  cases big
  · exact leV_lt t
  · exact beV_lt t
def padV (id body rest : List UInt8) : ChunkD × List UInt8 × Int :=
  bif body.length % 2 == 0 then ((id, body, 0, ()), rest, 0) else match rest with
    | [] => ((id, body, -1, ()), [], 0)
    | b :: r => ((id, body, (b.toNat : Int), ()), r, 0)
def takeV (s : List UInt8) (big : Bool) (own : Int) : ChunkD × List UInt8 × Int :=
  bif decide (s.length < 8) || !nameV (s.take 4) then (zCh, [], 2) else
  bif decide ((bif decide (own < 0) then (numV big ((s.drop 4).take 4) : Int) else own) > (s.length : Int) - 8) then (zCh, [], 2) else
  padV (s.take 4) ((s.drop 8).take (bif decide (own < 0) then (numV big ((s.drop 4).take 4) : Int) else own).toNat) ((s.drop 8).drop (bif decide (own < 0) then (numV big ((s.drop 4).take 4) : Int) else own).toNat)
end Go.LM
namespace Go.Proofs.Ytfblaicifdgfiaa.Dg
open Go.LM
theorem length_eq (s : List UInt8) (big : Bool) (h : s.length < 8) : LQ.length s big = some ((numV big s : Nat) : Int) := by
  unfold LQ.length LQ.length.t numV
  cases big
  · rw [Tr.run_br, cond_false, Tr.run_bind, bFromLe_eq s h]; rfl
  · rw [Tr.run_br, cond_true, Tr.run_bind, bFromBe_eq s h]; rfl
theorem take_eq (s : List UInt8) (big : Bool) (own : Int) (h : s.length ≤ 1073741824) : LQ.take s big own = some (takeV s big own) := by
  unfold LQ.take LQ.take.t takeV
  simp only [List.drop_zero]
  rw [Tr.run_bind, Tr.run_br]
  by_cases h8 : s.length < 8
  · rw [decide_eq_true (p := Int.ofNat s.length < 8) (by simp only [Int.ofNat_eq_natCast]; omega), decide_eq_true h8]; rfl
  · rw [decide_eq_false (p := Int.ofNat s.length < 8) (by simp only [Int.ofNat_eq_natCast]; omega), decide_eq_false h8, cond_false, Tr.run_need _ (by simp only [Int.ofNat_eq_natCast]; omega), Tr.run_bind, name_eq _ (by rw [List.length_take]; omega), Option.bind_some, Tr.run_ret, Option.bind_some, Tr.run_br, Bool.false_or]
    cases nameV (s.take 4) with
    | false => rfl
    | true =>
      simp only [Bool.not_true, cond_false]
      have hl4 : ((s.drop 4).take 4).length = 4 := by rw [List.length_take, List.length_drop]; omega
      rw [Tr.run_bind, Tr.run_br, Tr.run_need _ (by simp only [Int.ofNat_eq_natCast]; omega), Tr.run_bind, length_eq _ _ (by omega), Option.bind_some, Tr.run_ret, Tr.run_ret]
      have e2 : (bif decide (own < 0) then some (((numV big ((s.drop 4).take 4) : Nat) : Int), ([] : List UInt8), ([] : List UInt8), (0 : Int)) else some (own, [], [], 0)) = some ((bif decide (own < 0) then ((numV big ((s.drop 4).take 4) : Nat) : Int) else own), [], [], 0) := by
        cases decide (own < 0) <;> rfl
      refine (congrArg (fun o => Option.bind o _) e2).trans ?_
      have hn0 : 0 ≤ (bif decide (own < 0) then ((numV big ((s.drop 4).take 4) : Nat) : Int) else own) := by
        by_cases ho : own < 0
        · rw [decide_eq_true ho, cond_true]; omega
        · rw [decide_eq_false ho, cond_false]; omega
      generalize (bif decide (own < 0) then ((numV big ((s.drop 4).take 4) : Nat) : Int) else own) = n at hn0 ⊢
      have hl8 : (s.drop 8).length = s.length - 8 := List.length_drop
      have ht : List.take (Int.ofNat s.length - 8).toNat (s.drop 8) = s.drop 8 := List.take_of_length_le (by rw [hl8]; simp only [Int.ofNat_eq_natCast]; omega)
      rw [Option.bind_some, Tr.run_need _ (by simp only [Int.ofNat_eq_natCast]; omega), Tr.run_need _ (by simp only [Int.ofNat_eq_natCast]; omega), ht, Tr.run_br]
      simp only []
      by_cases hn : n > (s.length : Int) - 8
      · rw [decide_eq_true hn, decide_eq_true (p := n > Int.ofNat (s.drop 8).length) (by rw [hl8]; simp only [Int.ofNat_eq_natCast]; omega)]; rfl
      · rw [decide_eq_false hn, decide_eq_false (p := n > Int.ofNat (s.drop 8).length) (by rw [hl8]; simp only [Int.ofNat_eq_natCast]; omega), cond_false, cond_false]
        obtain ⟨N, rfl⟩ : ∃ N : Nat, n = (N : Int) := ⟨n.toNat, by omega⟩
        have hb : ((s.drop 8).take N).length = N := by rw [List.length_take]; omega
        have hr : List.take (Int.ofNat (s.drop 8).length - (N : Int)).toNat (List.drop N (s.drop 8)) = List.drop N (s.drop 8) := List.take_of_length_le (by rw [List.length_drop]; simp only [Int.ofNat_eq_natCast]; omega)
        rw [Tr.run_need _ (by rw [hl8]; simp only [Int.ofNat_eq_natCast]; omega), Tr.run_need _ (by rw [hl8]; simp only [Int.ofNat_eq_natCast]; omega), Tr.run_bind, Tr.run_br, Int.toNat_natCast, hr, Int.sub_zero, Int.toNat_natCast]
        unfold padV
        rw [hb]
        have hp : ((N : Int).tmod 2 == 0) = (N % 2 == 0) := by
          rw [Int.tmod_eq_emod_of_nonneg (by omega), Bool.eq_iff_iff, beq_iff_eq, beq_iff_eq]; omega
        rw [hp]
        cases N % 2 == 0 with
        | true => rfl
        | false =>
          rw [cond_false, cond_false, Tr.run_bind, Tr.run_br]
          generalize List.drop N (s.drop 8) = rest
          cases rest with
          | nil => rfl
          | cons b r =>
            have hbt := b.toNat_lt
            rw [show ((b :: r : List UInt8) == []) = false from rfl, cond_false, Tr.run_need _ (by simp only [List.length_cons, Int.ofNat_eq_natCast]; omega), Tr.run_need _ (by simp only [List.length_cons, Int.ofNat_eq_natCast]; omega), Tr.run_ret, Option.bind_some, Tr.run_ret, Option.bind_some, Tr.run_ret]
            simp only [List.drop_succ_cons, List.drop_zero, List.getD_cons_zero]
            rw [List.take_of_length_le (l := r) (by simp only [List.length_cons, Int.ofNat_eq_natCast]; omega), w64_id (by simp only [Int.ofNat_eq_natCast]; omega)]
            rfl
end Go.Proofs.Ytfblaicifdgfiaa.Dg
end

section
set_option linter.unusedVariables false
set_option linter.unusedSimpArgs false
namespace Go.Proofs.Ytfblaicifdgfiaa.Dg
open Go.LM
theorem from_eq (s : List UInt8) (big : Bool) (h : s.length < 8) : LQ.r6_from s big = some ((numV big s : Nat) : Int) := by
  unfold LQ.r6_from LQ.r6_from.t numV
  cases big
  · rw [Tr.run_br, cond_false, Tr.run_bind, FromLe_eq s h]; rfl
  · rw [Tr.run_br, cond_true, Tr.run_bind, FromBe_eq s h]; rfl
theorem one_eq (s : List UInt8) (big : Bool) (h : s.length ≤ 1073741824) : ∃ at_ : Nat, LQ.r6_one s big (-1) = some ((takeV s big (-1)).1, (at_ : Int), (takeV s big (-1)).2.2) ∧ ((takeV s big (-1)).2.2 = 0 → (takeV s big (-1)).2.1 = s.drop at_ ∧ 8 ≤ at_ ∧ at_ ≤ s.length) := by
  unfold LQ.r6_one LQ.r6_one.t takeV
  simp only [List.drop_zero]
  rw [Tr.run_bind, Tr.run_br]
  by_cases h8 : s.length < 8
  · rw [decide_eq_true (p := Int.ofNat s.length < 8) (by simp only [Int.ofNat_eq_natCast]; omega), decide_eq_true h8]
    exact ⟨0, rfl, fun e => by cases e⟩
  · rw [decide_eq_false (p := Int.ofNat s.length < 8) (by simp only [Int.ofNat_eq_natCast]; omega), decide_eq_false h8, cond_false, Tr.run_need _ (by simp only [Int.ofNat_eq_natCast]; omega), Tr.run_bind, Id_eq _ (by rw [List.length_take]; omega), Option.bind_some, Tr.run_ret, Option.bind_some, Tr.run_br, Bool.false_or]
    cases nameV (s.take 4) with
    | false => exact ⟨0, rfl, fun e => by cases e⟩
    | true =>
      simp only [Bool.not_true, cond_false]
      have hl4 : ((s.drop 4).take 4).length = 4 := by rw [List.length_take, List.length_drop]; omega
      have hlt := numV_lt big ((s.drop 4).take 4)
      rw [hl4] at hlt
      rw [Tr.run_need _ (by simp only [Int.ofNat_eq_natCast]; omega), Tr.run_bind, from_eq _ _ (by omega), Option.bind_some, Tr.run_bind, Tr.run_br, show decide ((-1 : Int) ≥ 0) = false from rfl, cond_false, Tr.run_ret, Option.bind_some, show decide ((-1 : Int) < 0) = true from rfl, cond_true]
      simp only []
      generalize numV big ((s.drop 4).take 4) = N at hlt ⊢
      have hl8 : (s.drop 8).length = s.length - 8 := List.length_drop
      rw [w64_id (x := Int.ofNat s.length - 8) (by simp only [Int.ofNat_eq_natCast]; omega), Tr.run_br]
      by_cases hn : (N : Int) > (s.length : Int) - 8
      · rw [decide_eq_true hn, decide_eq_true (p := (N : Int) > Int.ofNat s.length - 8) (by simp only [Int.ofNat_eq_natCast]; omega)]
        exact ⟨0, rfl, fun e => by cases e⟩
      · rw [decide_eq_false hn, decide_eq_false (p := (N : Int) > Int.ofNat s.length - 8) (by simp only [Int.ofNat_eq_natCast]; omega), cond_false, cond_false]
        have hb : ((s.drop 8).take N).length = N := by rw [List.length_take]; omega
        rw [w64_id (x := 8 + (N : Int)) (by omega), Tr.run_need _ (by simp only [Int.ofNat_eq_natCast]; omega), Tr.run_need _ (by simp only [Int.ofNat_eq_natCast]; omega), Tr.run_bind, Tr.run_br, show (8 + (N : Int) - 8).toNat = N by omega, Int.toNat_natCast]
        unfold padV
        rw [hb]
        have hp : ((N : Int).tmod 2 == 1) = !(N % 2 == 0) := by
          rw [Int.tmod_eq_emod_of_nonneg (by omega), Bool.eq_iff_iff, beq_iff_eq]; simp only [Bool.not_eq_true', beq_eq_false_iff_ne]; omega
        rw [hp]
        have hdd : (s.drop 8).drop N = s.drop (8 + N) := by rw [List.drop_drop]
        rw [hdd]
        cases N % 2 == 0 with
        | true => exact ⟨8 + N, by rw [show ((8 + N : Nat) : Int) = 8 + (N : Int) by omega]; rfl, fun _ => ⟨rfl, by omega, by omega⟩⟩
        | false =>
          rw [Bool.not_false, cond_true, cond_false, Tr.run_bind, Tr.run_br]
          by_cases hlast : 8 + N < s.length
          · rw [decide_eq_true (p := 8 + (N : Int) < Int.ofNat s.length) (by simp only [Int.ofNat_eq_natCast]; omega), cond_true, Tr.run_need _ (by simp only [Int.ofNat_eq_natCast]; omega), Tr.run_ret, Option.bind_some, Tr.run_ret, Option.bind_some, Tr.run_ret, show (8 + (N : Int)).toNat = 8 + N by omega]
            have hd : s.drop (8 + N) = s.getD (8 + N) 0 :: s.drop (8 + N + 1) := by rw [getD_lt _ _ hlast]; exact List.drop_eq_getElem_cons hlast
            have hbt := (s.getD (8 + N) 0).toNat_lt
            rw [hd, w64_id (x := 8 + (N : Int) + 1) (by omega), w64_id (by simp only [Int.ofNat_eq_natCast]; omega)]
            exact ⟨8 + N + 1, by rw [show ((8 + N + 1 : Nat) : Int) = 8 + (N : Int) + 1 by omega]; rfl, fun _ => ⟨rfl, by omega, by omega⟩⟩
          · rw [decide_eq_false (p := 8 + (N : Int) < Int.ofNat s.length) (by simp only [Int.ofNat_eq_natCast]; omega), cond_false]
            have hd : s.drop (8 + N) = [] := List.drop_of_length_le (by omega)
            rw [hd]
            exact ⟨8 + N, by rw [show ((8 + N : Nat) : Int) = 8 + (N : Int) by omega]; rfl, fun _ => ⟨hd.symm, by omega, by omega⟩⟩
end Go.Proofs.Ytfblaicifdgfiaa.Dg
end

section
set_option linter.unusedVariables false
set_option linter.unusedSimpArgs false
namespace Go.LM
def chV (big : Bool) : Nat → List UInt8 → List ChunkD → List ChunkD × Int
  | 0, _, out => (out, 0)
  | n + 1, s, out => bif s == [] then (out, 0) else bif (takeV s big (-1)).2.2 != 0 then ([], (takeV s big (-1)).2.2) else bif out.length == 1024 then ([], 5) else chV big n (takeV s big (-1)).2.1 (out ++ [(takeV s big (-1)).1])
end Go.LM
namespace Go.Proofs.Ytfblaicifdgfiaa.Dg
open Go.LM
theorem ch_loop (big : Bool) : ∀ (n : Nat) (s : List UInt8) (out : List ChunkD), s.length < n → s.length ≤ 1073741824 → out.length ≤ 1024 →
    ∃ r, loopO (fun (d : List UInt8 × List ChunkD) ↦ (LQ.Chunks.l0 big d.fst d.snd).run) (s, out) = some r ∧ (match r with | .inl (e, o) => (o, e) | .inr e => (([] : List ChunkD), e)) = chV big n s out
  | 0, s, out, h, _, _ => by omega
  | n + 1, s, out, h, hs, ho => by
    rw [chV]
    cases hse : s == [] with
    | true =>
      refine ⟨.inl (0, out), loopO_done ?_, rfl⟩
      simp only [LQ.Chunks.l0]
      rw [Tr.run_br, hse]; rfl
    | false =>
      rw [cond_false]
      obtain ⟨at_, h1, h2⟩ := one_eq s big hs
      cases he : (takeV s big (-1)).2.2 != 0 with
      | true =>
        refine ⟨.inr (takeV s big (-1)).2.2, loopO_done ?_, rfl⟩
        simp only [LQ.Chunks.l0]
        rw [Tr.run_br, hse, cond_false, Tr.run_bind, take_eq s big _ hs, Option.bind_some, Tr.run_br, he]; rfl
      | false =>
        have he0 : (takeV s big (-1)).2.2 = 0 := by simpa using he
        obtain ⟨h3, h4, h5⟩ := h2 he0
        cases hm : out.length == 1024 with
        | true =>
          refine ⟨.inr 5, loopO_done ?_, rfl⟩
          simp only [LQ.Chunks.l0]
          have hm' : (Int.ofNat out.length == (1024 : Int)) = true := by rw [beq_iff_eq] at hm ⊢; simp only [Int.ofNat_eq_natCast]; omega
          rw [Tr.run_br, hse, cond_false, Tr.run_bind, take_eq s big _ hs, Option.bind_some, Tr.run_br, he, cond_false, Tr.run_br, hm']; rfl
        | false =>
          rw [cond_false, cond_false]
          have hne : s.length ≠ 0 := fun e => by rw [List.length_eq_zero_iff.1 e] at hse; cases hse
          have hl : (takeV s big (-1)).2.1.length < n := by rw [h3, List.length_drop]; omega
          have hml : out.length ≠ 1024 := by simpa using hm
          obtain ⟨r, h6, h7⟩ := ch_loop big n (takeV s big (-1)).2.1 (out ++ [(takeV s big (-1)).1]) hl (by rw [h3, List.length_drop]; omega) (by simp; omega)
          refine ⟨r, (loopO_next ?_).trans h6, h7⟩
          simp only [LQ.Chunks.l0]
          have hm' : (Int.ofNat out.length == (1024 : Int)) = false := by rw [beq_eq_false_iff_ne]; simp only [Int.ofNat_eq_natCast]; omega
          rw [Tr.run_br, hse, cond_false, Tr.run_bind, take_eq s big _ hs, Option.bind_some, Tr.run_br, he, cond_false, Tr.run_br, hm', cond_false, Tr.run_need _ (by rw [List.length_set, List.length_replicate]; omega), Tr.run_ret]
          rfl
theorem Chunks_eq (s : List UInt8) (big : Bool) (hs : s.length ≤ 1073741824) : LQ.Chunks s big = some ((chV big (s.length + 1) s []).2, (chV big (s.length + 1) s []).1) := by
  unfold LQ.Chunks LQ.Chunks.t
  rw [chV, Tr.run_br]
  cases hse : s == [] with
  | true => rfl
  | false =>
    rw [cond_false, cond_false, Tr.run_bind, take_eq s big _ hs, Option.bind_some, Tr.run_br]
    obtain ⟨at_, h1, h2⟩ := one_eq s big hs
    cases he : (takeV s big (-1)).2.2 != 0 with
    | true => rfl
    | false =>
      have he0 : (takeV s big (-1)).2.2 = 0 := by simpa using he
      obtain ⟨h3, h4, h5⟩ := h2 he0
      have hne : s.length ≠ 0 := fun e => by rw [List.length_eq_zero_iff.1 e] at hse; cases hse
      obtain ⟨r, h6, h7⟩ := ch_loop big s.length (takeV s big (-1)).2.1 [(takeV s big (-1)).1] (by rw [h3, List.length_drop]; omega) (by rw [h3, List.length_drop]; omega) (by simp)
      rw [cond_false, Tr.run_br, cond_false, Tr.run_need _ (by rw [List.length_set, List.length_replicate]; omega), Tr.run_bind]
      refine (congrArg (fun o => Option.bind o _) h6).trans ?_
      rw [Option.bind_some, cond_false, show (([] : List ChunkD).length == 1024) = false from rfl, cond_false, List.nil_append, ← h7]
      cases r with
      | inl q => rfl
      | inr e => rfl
theorem rch_loop (s : List UInt8) (big : Bool) (hs : s.length ≤ 1073741824) : ∀ (n : Nat) (a : Nat) (out : List ChunkD), a ≤ s.length → s.length - a < n → out.length ≤ 1024 →
    ∃ r, loopO (fun (d : Int × List ChunkD) ↦ (LQ.r6_Chunks.l0 s big d.fst d.snd).run) ((a : Int), out) = some r ∧ (match r with | .inl e => (([] : List ChunkD), e) | .inr o => (o, 0)) = chV big n (s.drop a) out
  | 0, a, out, _, h, _ => by omega
  | n + 1, a, out, ha, h, ho => by
    rw [chV]
    have hld : (s.drop a).length = s.length - a := List.length_drop
    have ht : List.take (Int.ofNat s.length - (a : Int)).toNat (s.drop a) = s.drop a := List.take_of_length_le (by rw [hld]; simp only [Int.ofNat_eq_natCast]; omega)
    cases hse : s.drop a == [] with
    | true =>
      have : s.length ≤ a := by have := beq_iff_eq.1 hse; rw [this] at hld; simp at hld; omega
      refine ⟨.inr out, loopO_done ?_, rfl⟩
      simp only [LQ.r6_Chunks.l0]
      rw [Tr.run_br, decide_eq_false (by simp only [Int.ofNat_eq_natCast]; omega), cond_false, Tr.run_ret]
    | false =>
      have hlt : a < s.length := by
        rcases Nat.lt_or_ge a s.length with h | h
        · exact h
        · rw [List.drop_of_length_le h] at hse; cases hse
      rw [cond_false]
      obtain ⟨at_, h1, h2⟩ := one_eq (s.drop a) big (by omega)
      have hstart : (LQ.r6_Chunks.l0 s big (a : Int) out).run = (Tr.br ((takeV (s.drop a) big (-1)).2.2 != 0) (Tr.ret (Sum.inr (Sum.inl (takeV (s.drop a) big (-1)).2.2))) (Tr.br (Int.ofNat out.length == (1024 : Int)) (Tr.ret (Sum.inr (Sum.inl (5 : Int)))) (Tr.need ((out.length + 1) * 40 ≤ 140737488355328) (Tr.ret (Sum.inl (w64 ((a : Int) + (at_ : Int)), out ++ [(takeV (s.drop a) big (-1)).1])))))).run := by
        simp only [LQ.r6_Chunks.l0]
        rw [Tr.run_br, decide_eq_true (by simp only [Int.ofNat_eq_natCast]; omega), cond_true, Tr.run_need _ (by simp only [Int.ofNat_eq_natCast]; omega), Tr.run_bind, Int.toNat_natCast, ht, h1, Option.bind_some]
        rfl
      cases he : (takeV (s.drop a) big (-1)).2.2 != 0 with
      | true =>
        refine ⟨.inl (takeV (s.drop a) big (-1)).2.2, loopO_done ?_, rfl⟩
        show (LQ.r6_Chunks.l0 s big (a : Int) out).run = _
        rw [hstart, Tr.run_br, he]; rfl
      | false =>
        have he0 : (takeV (s.drop a) big (-1)).2.2 = 0 := by simpa using he
        obtain ⟨h3, h4, h5⟩ := h2 he0
        cases hm : out.length == 1024 with
        | true =>
          refine ⟨.inl 5, loopO_done ?_, rfl⟩
          have hm' : (Int.ofNat out.length == (1024 : Int)) = true := by rw [beq_iff_eq] at hm ⊢; simp only [Int.ofNat_eq_natCast]; omega
          show (LQ.r6_Chunks.l0 s big (a : Int) out).run = _
          rw [hstart, Tr.run_br, he, cond_false, Tr.run_br, hm']; rfl
        | false =>
          have hml : out.length ≠ 1024 := by simpa using hm
          rw [cond_false, cond_false, h3, List.drop_drop]
          obtain ⟨r, h6, h7⟩ := rch_loop s big hs n (a + at_) (out ++ [(takeV (s.drop a) big (-1)).1]) (by omega) (by omega) (by simp; omega)
          refine ⟨r, (loopO_next ?_).trans h6, h7⟩
          have hm' : (Int.ofNat out.length == (1024 : Int)) = false := by rw [beq_eq_false_iff_ne]; simp only [Int.ofNat_eq_natCast]; omega
          show (LQ.r6_Chunks.l0 s big (a : Int) out).run = _
          rw [hstart, Tr.run_br, he, cond_false, Tr.run_br, hm', cond_false, Tr.run_need _ (by omega), Tr.run_ret, w64_id (by omega)]
          rfl
theorem rChunks_eq (s : List UInt8) (big : Bool) (hs : s.length ≤ 1073741824) : LQ.r6_Chunks s big = some ((chV big (s.length + 1) s []).2, (chV big (s.length + 1) s []).1) := by
  unfold LQ.r6_Chunks LQ.r6_Chunks.t
  rw [Tr.run_bind]
  obtain ⟨r, h6, h7⟩ := rch_loop s big hs (s.length + 1) 0 [] (by omega) (by omega) (by simp)
  rw [List.drop_zero] at h7
  refine (congrArg (fun o => Option.bind o _) h6).trans ?_
  rw [Option.bind_some, ← h7]
  cases r with
  | inl e => rfl
  | inr o => rfl
end Go.Proofs.Ytfblaicifdgfiaa.Dg
end

section
set_option linter.unusedVariables false
set_option linter.unusedSimpArgs false
namespace Go.LM
def toV (big : Bool) (n : Nat) : List UInt8 := bif big then (leB n 4).reverse else leB n 4
theorem toV_len (big : Bool) (n : Nat) : (toV big n).length = 4 := by cases big <;> simp [toV, leB_len]
def leastV (last : Bool) (n : Nat) : Int := bif n % 2 == 1 then (bif last then -1 else 0) else 0
def mostV (n : Nat) : Int := bif n % 2 == 1 then 255 else 0
def layBad (last : Bool) (id : List UInt8) (n : Nat) (pad : Int) : Bool := !nameV id || (decide (pad < leastV last n) || decide (pad > mostV n))
def layV (big : Bool) (id body : List UInt8) (pad : Int) : List UInt8 := id ++ (toV big body.length ++ (body ++ (bif body.length % 2 == 1 && decide (pad ≥ 0) then [UInt8.ofNat (pad % 256).toNat] else [])))
end Go.LM
namespace Go.Proofs.Ytfblaicifdgfiaa.Dg
open Go.LM
theorem bBe_eq (n : Nat) (hn : n ≤ 1073741824) : LQ.bytes_Be n 4 = some ((leB n 4).reverse, 0) := by
  unfold LQ.bytes_Be LQ.bytes_Be.t
  have := bytes_Le_eq n 4 (by omega) (by omega) (by omega) (fun _ => by omega)
  rw [Tr.run_bind, show ((4 : Int)) = ((4 : Nat) : Int) from rfl, this, Option.bind_some, Tr.run_bind, turn_eq _ (by rw [leB_len]; omega)]
  rfl
theorem bLe_eq (n : Nat) (hn : n ≤ 1073741824) : LQ.bytes_Le n 4 = some (leB n 4, 0) := bytes_Le_eq n 4 (by omega) (by omega) (by omega) (fun _ => by omega)
theorem to_eq (n : Nat) (big : Bool) (hn : n ≤ 1073741824) : LQ.r6_to n big = some (toV big n) := by
  unfold LQ.r6_to LQ.r6_to.t toV
  have h1 : LQ.r2_Le n 4 = some (leB n 4, 0) := Le_eq n 4 (by omega) (by omega) (by omega) (fun _ => by omega)
  have h2 : LQ.r2_Be n 4 = some ((leB n 4).reverse, 0) := Be_eq n 4 (by omega) (by omega) (by omega) (fun _ => by omega)
  rw [Tr.run_bind, h1, Option.bind_some, Tr.run_bind, Tr.run_br, Tr.run_bind, h2]
  cases big <;> rfl
theorem odd_eq (n : Nat) : ((n : Int).tmod 2 == 1) = (n % 2 == 1) := by
  rw [Int.tmod_eq_emod_of_nonneg (by omega), Bool.eq_iff_iff, beq_iff_eq, beq_iff_eq]; omega
theorem lay_eq (id body : List UInt8) (pad : Int) (big last : Bool) (b : List UInt8) (h1 : body.length ≤ 1073741824) (h2 : id.length ≤ 1073741824) (h3 : b.length ≤ 1099511627776) :
    LQ.lay ((id, body, pad, ()), big, last, []) b = some (bif layBad last id body.length pad then (false, []) else (true, b ++ layV big id body pad)) := by
  have hN := name_eq id (by omega)
  have hL := bLe_eq body.length h1
  have hB := bBe_eq body.length h1
  have hl4 := leB_len body.length 4
  unfold LQ.lay LQ.lay.t layBad layV leastV mostV toV
  simp only [Int.ofNat_eq_natCast, odd_eq, Tr.run_bind, Tr.run_br, Tr.run_ret]
  cases hodd : (body.length % 2 == 1) <;> cases last <;> cases big <;> cases hnm : nameV id <;> simp only [cond_true, cond_false, Option.bind_some, hN, hnm, Bool.not_true, Bool.not_false, Bool.true_or, Bool.false_or] <;>
    (by_cases p1 : pad < -1 <;> by_cases p0 : pad < 0 <;> by_cases pm : pad > 255 <;> by_cases p00 : pad > 0 <;> first
      | (exfalso; omega)
      | (simp [p1, p0, pm, p00, Tr.run, hL, hB, hl4]; done)
      | (simp [p1, p0, pm, p00, Tr.run, hL, hB, hl4]; iterate 6 (try (split <;> try (exfalso; omega))); first | omega | exact ⟨by omega, by omega, by omega, by cases decide (0 ≤ pad) <;> simp⟩)
      | (simp [p1, p0, pm, p00, Tr.run, hL, hB, hl4]; exact ⟨by omega, by omega, by omega⟩)
      | (simp [p1, p0, pm, p00, Tr.run, hL, hB, hl4, show b.length + (id.length + (4 + body.length)) ≤ 140737488355327 by omega, show 0 ≤ pad by omega]; exact ⟨by omega, by omega, by omega⟩)
      | (simp [p1, p0, pm, p00, Tr.run, hL, hB, hl4, show b.length + (id.length + (4 + body.length)) ≤ 140737488355327 by omega, show 0 ≤ pad by omega]; done)
      | (simp [p1, p0, pm, p00, Tr.run, hL, hB, hl4, show b.length + (id.length + (4 + body.length)) ≤ 140737488355327 by omega]; exact ⟨by omega, by omega, by omega, by cases decide (0 ≤ pad) <;> simp⟩))
end Go.Proofs.Ytfblaicifdgfiaa.Dg
end

section
set_option linter.unusedVariables false
set_option linter.unusedSimpArgs false
namespace Go.LM
def badAt (l : List ChunkD) (k : Nat) : Bool := layBad (k + 1 == l.length) (l.getD k zCh).1 (l.getD k zCh).2.1.length (l.getD k zCh).2.2.1
def layL (big : Bool) (l : List ChunkD) (k : Nat) : List UInt8 := (List.range k).flatMap fun i => layV big (l.getD i zCh).1 (l.getD i zCh).2.1 (l.getD i zCh).2.2.1
def layAll (big : Bool) (l : List ChunkD) : List UInt8 × Int := bif decide (l.length > 1024) then ([], 60) else bif (List.range l.length).all (fun k => !badAt l k) then (layL big l l.length, 0) else ([], 60)
theorem layV_len (big : Bool) (id body : List UInt8) (pad : Int) : (layV big id body pad).length ≤ id.length + body.length + 5 := by
  unfold layV
  simp only [List.length_append, toV_len]
  cases (body.length % 2 == 1 && decide (pad ≥ 0)) <;> simp <;> omega
theorem layL_len (big : Bool) (l : List ChunkD) (h : ∀ k, (l.getD k zCh).1.length ≤ 67108864 ∧ (l.getD k zCh).2.1.length ≤ 67108864) : ∀ k, (layL big l k).length ≤ k * 134217733
  | 0 => by simp [layL]
  | k + 1 => by
    have ih := layL_len big l h k
    have h1 := layV_len big (l.getD k zCh).1 (l.getD k zCh).2.1 (l.getD k zCh).2.2.1
    have h2 := h k
    unfold layL at ih ⊢
    rw [List.range_succ, List.flatMap_append, List.length_append]
    simp only [List.flatMap_cons, List.flatMap_nil, List.append_nil]
    omega
theorem layL_succ (big : Bool) (l : List ChunkD) (k : Nat) : layL big l (k + 1) = layL big l k ++ layV big (l.getD k zCh).1 (l.getD k zCh).2.1 (l.getD k zCh).2.2.1 := by
  unfold layL; rw [List.range_succ, List.flatMap_append]; simp
end Go.LM
namespace Go.Proofs.Ytfblaicifdgfiaa.Dg
open Go.LM
theorem last_eq (l : List ChunkD) (k : Nat) (hk : k < l.length) (hl : l.length ≤ 1024) : ((k : Int) == w64 (Int.ofNat l.length - 1)) = (k + 1 == l.length) := by
  rw [w64_id (by simp only [Int.ofNat_eq_natCast]; omega), Bool.eq_iff_iff, beq_iff_eq, beq_iff_eq]; simp only [Int.ofNat_eq_natCast]; omega
theorem Lay_eq (l : List ChunkD) (big : Bool) (h : ∀ k, (l.getD k zCh).1.length ≤ 67108864 ∧ (l.getD k zCh).2.1.length ≤ 67108864) : LQ.Lay l big = some (layAll big l) := by
  unfold LQ.Lay LQ.Lay.t layAll
  rw [Tr.run_br]
  by_cases hm : l.length > 1024
  · rw [decide_eq_true hm, decide_eq_true (p := Int.ofNat l.length > 1024) (by simp only [Int.ofNat_eq_natCast]; omega)]; rfl
  · rw [decide_eq_false hm, decide_eq_false (p := Int.ofNat l.length > 1024) (by simp only [Int.ofNat_eq_natCast]; omega), cond_false, cond_false, Tr.run_bind]
    have := loopA (f := fun (d : Int × List UInt8) ↦ (LQ.Lay.l0 l big d.fst d.snd).run) (fun k => ((k : Int), layL big l k)) (fun k => !badAt l k) (.inl ([], 60)) (.inr (layL big l l.length)) l.length l.length 0 (by omega) ?_ ?_
    · have e0 : layL big l 0 = [] := rfl
      simp only [e0, Nat.zero_add] at this
      refine (congrArg (fun o => Option.bind o _) this).trans ?_
      rw [Option.bind_some]
      cases (List.range l.length).all (fun k => !badAt l k) <;> rfl
    · intro k _ hk
      have h2 := h k
      have h3 := layL_len big l h k
      simp only [LQ.Lay.l0, Int.toNat_natCast]
      rw [Tr.run_br, decide_eq_true (by simp only [Int.ofNat_eq_natCast]; omega), cond_true, Tr.run_need _ (by simp only [Int.ofNat_eq_natCast]; omega), Tr.run_bind, last_eq l k hk (by omega)]
      have e := lay_eq (l.getD k zCh).1 (l.getD k zCh).2.1 (l.getD k zCh).2.2.1 big (k + 1 == l.length) (layL big l k) (by omega) (by omega) (by omega)
      refine (congrArg (fun o => Option.bind o _) e).trans ?_
      show _ = some (bif !badAt l k then _ else _)
      unfold badAt
      cases layBad (k + 1 == l.length) (l.getD k zCh).1 (l.getD k zCh).2.1.length (l.getD k zCh).2.2.1 with
      | true => rfl
      | false =>
        rw [cond_false, Option.bind_some, Tr.run_br, Bool.not_true, cond_false, Tr.run_ret, w64_id (by omega), layL_succ]
        rfl
    · simp only [LQ.Lay.l0]
      rw [Tr.run_br, decide_eq_false (by simp only [Int.ofNat_eq_natCast]; omega), cond_false, Tr.run_ret]
end Go.Proofs.Ytfblaicifdgfiaa.Dg
end

section
set_option linter.unusedVariables false
set_option linter.unusedSimpArgs false
namespace Go.Proofs.Ytfblaicifdgfiaa.Dg
open Go.LM
theorem rlay_step (l : List ChunkD) (big : Bool) (k : Nat) (b : List UInt8) (hk : k < l.length) (hl : l.length ≤ 1024) (h : (l.getD k zCh).1.length ≤ 67108864 ∧ (l.getD k zCh).2.1.length ≤ 67108864) (hb : b.length ≤ 1099511627776) :
    (LQ.r6_Lay.l0 l big (k : Int) b).run = some (bif !badAt l k then .inl (((k + 1 : Nat) : Int), b ++ layV big (l.getD k zCh).1 (l.getD k zCh).2.1 (l.getD k zCh).2.2.1) else .inr (.inl ([], 60))) := by
  have hn : (0 : Int) ≤ (k : Int) ∧ (k : Int) < Int.ofNat l.length := by simp only [Int.ofNat_eq_natCast]; omega
  unfold LQ.r6_Lay.l0
  rw [Int.toNat_natCast, Tr.run_br, decide_eq_true hn.2, cond_true, Tr.run_need _ hn, last_eq l k hk hl]
  have hL := last_eq l k hk hl
  unfold badAt
  rw [show ((([] : List UInt8), ([] : List UInt8), (0 : Int), ()) : ChunkD) = zCh from rfl]
  generalize l.getD k zCh = p at h ⊢
  obtain ⟨id, body, pad, u⟩ := p
  simp only [] at h ⊢
  have hN := Id_eq id (by omega)
  have hT := to_eq body.length big (by omega)
  have hl4 := toV_len big body.length
  generalize hla : (k + 1 == l.length) = last
  unfold layBad layV leastV mostV
  simp only [Int.ofNat_eq_natCast, odd_eq, Tr.run_bind, Tr.run_br, Tr.run_ret, Tr.run_need _ hn, Tr.run_need _ (show (0 : Int) ≤ (k : Int) ∧ (k : Int) < (l.length : Int) from hn)]
  generalize hTt : toV big body.length = tt at hT hl4 ⊢
  rw [w64_id (x := (k : Int) + 1) (by omega)]
  cases hodd : (body.length % 2 == 1) <;> cases last <;> cases hnm : nameV id <;> simp only [cond_true, cond_false, Option.bind_some, hN, hnm, Bool.not_true, Bool.not_false, Bool.true_or, Bool.false_or] <;>
    (by_cases p1 : pad < -1 <;> by_cases p0 : pad < 0 <;> by_cases pm : pad > 255 <;> by_cases p00 : pad > 0 <;> first
      | (exfalso; omega)
      | (simp [p1, p0, pm, p00, Tr.run, hT, hl4]; done)
      | (simp [p1, p0, pm, p00, Tr.run, hT, hl4]; omega)
      | (simp [p1, p0, pm, p00, Tr.run, hT, hl4]; exact ⟨by omega, by omega, by omega⟩)
      | (simp [p1, p0, pm, p00, Tr.run, hT, hl4, show 0 ≤ pad by omega]; exact ⟨by omega, by omega, by omega⟩)
      | (simp [p1, p0, pm, p00, Tr.run, hT, hl4, show b.length + (id.length + (4 + body.length)) ≤ 140737488355327 by omega]; exact ⟨by omega, by omega, by omega, by cases decide (0 ≤ pad) <;> simp <;> omega⟩)
      | skip)
end Go.Proofs.Ytfblaicifdgfiaa.Dg
end

section
set_option linter.unusedVariables false
set_option linter.unusedSimpArgs false
namespace Go.Proofs.Ytfblaicifdgfiaa.Dg
open Go.LM
theorem rLay_eq (l : List ChunkD) (big : Bool) (h : ∀ k, (l.getD k zCh).1.length ≤ 67108864 ∧ (l.getD k zCh).2.1.length ≤ 67108864) : LQ.r6_Lay l big = some (layAll big l) := by
  unfold LQ.r6_Lay LQ.r6_Lay.t layAll
  rw [Tr.run_br]
  by_cases hm : l.length > 1024
  · rw [decide_eq_true hm, decide_eq_true (p := Int.ofNat l.length > 1024) (by simp only [Int.ofNat_eq_natCast]; omega)]; rfl
  · rw [decide_eq_false hm, decide_eq_false (p := Int.ofNat l.length > 1024) (by simp only [Int.ofNat_eq_natCast]; omega), cond_false, cond_false, Tr.run_bind]
    have := loopA (f := fun (d : Int × List UInt8) ↦ (LQ.r6_Lay.l0 l big d.fst d.snd).run) (fun k => ((k : Int), layL big l k)) (fun k => !badAt l k) (.inl ([], 60)) (.inr (layL big l l.length)) l.length l.length 0 (by omega) ?_ ?_
    · have e0 : layL big l 0 = [] := rfl
      simp only [e0, Nat.zero_add] at this
      refine (congrArg (fun o => Option.bind o _) this).trans ?_
      rw [Option.bind_some]
      cases (List.range l.length).all (fun k => !badAt l k) <;> rfl
    · intro k _ hk
      have h3 := layL_len big l h k
      rw [layL_succ]
      exact rlay_step l big k (layL big l k) hk (by omega) (h k) (by omega)
    · simp only [LQ.r6_Lay.l0]
      rw [Tr.run_br, decide_eq_false (by simp only [Int.ofNat_eq_natCast]; omega), cond_false, Tr.run_ret]
theorem chV_len (big : Bool) : ∀ (n : Nat) (s : List UInt8) (out : List ChunkD), out.length ≤ 1024 → (chV big n s out).1.length ≤ 1024
  | 0, s, out, h => h
  | n + 1, s, out, h => by
    rw [chV]
    cases s == [] with
    | true => exact h
    | false =>
      cases (takeV s big (-1)).2.2 != 0 with
      | true => exact Nat.zero_le _
      | false =>
        cases hm : out.length == 1024 with
        | true => exact Nat.zero_le _
        | false =>
          have : out.length ≠ 1024 := by simpa using hm
          exact chV_len big n _ _ (by simp; omega)
end Go.Proofs.Ytfblaicifdgfiaa.Dg
end

