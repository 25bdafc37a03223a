/- DgB: DgB. -/
import Derived.Test.YtipoadjhenjpiaaLmH
import Derived.Test.YtipoadjhenjpiaaDgA
section
set_option linter.unusedVariables false
set_option linter.unusedSimpArgs false
namespace Go.LM
/-- Bytes, the lowest first. -/
def leB (n w : Nat) : List UInt8 := (List.range w).map fun i => UInt8.ofNat (n / 256 ^ i)
/-- Their number. -/
def leV : List UInt8 → Nat
  | [] => 0
  | b :: l => b.toNat + 256 * leV l
/-- The highest first. -/
def beV (s : List UInt8) : Nat := s.foldl (fun n b => n * 256 + b.toNat) 0
theorem leB_len (n w : Nat) : (leB n w).length = w := by simp [leB]
theorem beV_rev : ∀ (s : List UInt8), beV s.reverse = leV s
  | [] => rfl
  | b :: l => by
    have := beV_rev l
    unfold beV at this ⊢
    rw [List.reverse_cons, List.foldl_append, this]
    simp only [List.foldl_cons, List.foldl_nil, leV]
    omega
theorem leV_lt : ∀ (s : List UInt8), leV s < 256 ^ s.length
  | [] => by decide
  | b :: l => by
    have h1 := leV_lt l
    have h2 := b.toNat_lt
    rw [leV, List.length_cons, Nat.pow_succ]
    omega
theorem beV_lt (s : List UInt8) : beV s < 256 ^ s.length := by
  have := leV_lt s.reverse
  rw [← beV_rev, List.reverse_reverse, List.length_reverse] at this
  exact this
theorem beV_take (s : List UInt8) (k : Nat) (h : k < s.length) : beV (s.take (k + 1)) = beV (s.take k) * 256 + (s.getD k 0).toNat := by
  unfold beV
  rw [List.take_succ_eq_append_getElem h, List.foldl_append]
  simp only [getD_lt _ _ h, List.foldl_cons, List.foldl_nil]
theorem byte_div (n m : Nat) : (((n : Int) / (m : Int)) % 256).toNat = n / m % 256 := by
  rw [← Int.natCast_ediv]; omega
theorem ofNat_mod (m : Nat) : UInt8.ofNat (m % 256) = UInt8.ofNat m := by
  apply UInt8.toNat_inj.1; rw [UInt8.toNat_ofNat', UInt8.toNat_ofNat']; omega
theorem pow256_le {k n : Nat} (h : k ≤ n) : 256 ^ k ≤ 256 ^ n := Nat.pow_le_pow_right (by decide) h
end Go.LM
namespace Go.Proofs.Ytipoadjhenjpiaa.Dg
open Go.LM

theorem turned_eq (s : List UInt8) (h : s.length ≤ 140737488355328) : LQ.r2_turned s = some s.reverse := by
  unfold LQ.r2_turned LQ.r2_turned.t
  rw [Tr.run_need _ (by simp; omega), Tr.run_bind]
  rw [show (loopO (fun (d : Int × List UInt8) ↦ (LQ.r2_turned.l0 s d.fst d.snd).run) ((0 : Int), List.replicate (Int.ofNat s.length).toNat (0 : UInt8))) = some s.reverse from ?_]
  · rfl
  · have := loopO_steps (f := fun (d : Int × List UInt8) ↦ (LQ.r2_turned.l0 s d.fst d.snd).run) (fun k => ((k : Int), List.replicate (s.length - k) (0 : UInt8) ++ (s.take k).reverse)) (r := s.reverse) s.length ?_ ?_
    · simpa using this
    · intro k hk
      simp only [LQ.r2_turned.l0]
      rw [Tr.run_br, decide_eq_true (by simp; omega), cond_true, Tr.run_need _ (by simp; omega)]
      have e : w64 (w64 (Int.ofNat s.length - 1) - (k : Int)) = ((s.length - 1 - k : Nat) : Int) := by
        rw [w64_id (x := Int.ofNat s.length - 1) (by simp; omega), w64_id (by simp; omega)]; simp; omega
      rw [e, Tr.run_need _ (by simp; omega), Tr.run_ret, w64_id (by omega)]
      have e2 : s.length - k = (s.length - 1 - k) + 1 := by omega
      rw [e2, Int.toNat_natCast, set_fill_back, Int.toNat_natCast, List.take_succ_eq_append_getElem hk, List.reverse_append]
      simp only [List.reverse_cons, List.reverse_nil, List.nil_append, List.singleton_append, getD_lt _ _ hk]
      rw [show s.length - (k + 1) = s.length - 1 - k by omega]
      rfl
    · simp only [LQ.r2_turned.l0]
      rw [Tr.run_br, decide_eq_false (by simp), cond_false, Tr.run_ret]
      simp

theorem FromBe_eq (s : List UInt8) (h : s.length < 8) : LQ.r2_FromBe s = some ((beV s : Nat) : Int) := by
  unfold LQ.r2_FromBe LQ.r2_FromBe.t
  have hb : ∀ k < s.length, beV (s.take k) < 256 ^ 6 := fun k hk => Nat.lt_of_lt_of_le (beV_lt _) (pow256_le (by simp; omega))
  rw [Tr.run_bind, Tr.run_br, decide_eq_false (by simp; omega), cond_false, Tr.run_br, show (Int.ofNat s.length == (8 : Int)) = false by simp; omega, cond_false, Tr.run_ret]
  simp only [Option.bind_some, Tr.run_br, cond_false, Tr.run_bind]
  rw [show (loopO (fun (d : Int × Int) ↦ (LQ.r2_FromBe.l0 s d.fst d.snd).run) ((0 : Int), (0 : Int))) = some ((beV s : Nat) : Int) from ?_]
  · rfl
  · have := loopO_steps (f := fun (d : Int × Int) ↦ (LQ.r2_FromBe.l0 s d.fst d.snd).run) (fun k => (((beV (s.take k) : Nat) : Int), (k : Int))) (r := ((beV s : Nat) : Int)) s.length ?_ ?_
    · simpa [beV] using this
    · intro k hk
      simp only [LQ.r2_FromBe.l0]
      have h1 := hb k hk
      have h2 := (s.getD k 0).toNat_lt
      rw [Tr.run_br, decide_eq_true (by simp; omega), cond_true, Tr.run_need _ (by simp; omega), Tr.run_ret, w64_id (x := (k : Int) + 1) (by omega), Int.toNat_natCast]
      simp only [Int.ofNat_eq_natCast]
      rw [w64_id (x := ((s.getD k 0).toNat : Int)) (by omega), w64_id (x := (beV (s.take k) : Int) * 256) (by omega), w64_id (by omega), beV_take s k hk]
      simp only [Int.natCast_add, Int.natCast_mul]; rfl
    · simp only [LQ.r2_FromBe.l0]
      rw [Tr.run_br, decide_eq_false (by simp), cond_false, Tr.run_ret]
      simp

theorem FromLe_eq (s : List UInt8) (h : s.length < 8) : LQ.r2_FromLe s = some ((leV s : Nat) : Int) := by
  unfold LQ.r2_FromLe LQ.r2_FromLe.t
  rw [Tr.run_bind, turned_eq s (by omega), Option.bind_some, Tr.run_bind, FromBe_eq _ (by simpa using h), beV_rev]
  rfl

theorem p2_8 (k : Nat) (h : k ≤ 8) : p2 ((8 * k : Nat) : Int) 64 = ((256 ^ k : Nat) : Int) := by
  unfold p2
  rw [Int.toNat_natCast, Nat.min_eq_left (by omega), show (2:Nat) ^ (8 * k) = 256 ^ k by rw [Nat.pow_mul]]

theorem Le_loop (n : Nat) (w : Nat) (hw : w ≤ 8) : loopO (fun (d : Int × List UInt8) ↦ (LQ.bytes_Le.l0 n w d.fst d.snd).run) ((0 : Int), List.replicate w (0 : UInt8)) = some (leB n w) := by
  have := loopO_steps (f := fun (d : Int × List UInt8) ↦ (LQ.bytes_Le.l0 n w d.fst d.snd).run) (fun k => ((k : Int), (List.range k).map (fun i => UInt8.ofNat (n / 256 ^ i)) ++ List.replicate (w - k) (0 : UInt8))) (r := leB n w) w ?_ ?_
  · simpa using this
  · intro k hk
    simp only [LQ.bytes_Le.l0]
    rw [Tr.run_br, decide_eq_true (by omega), cond_true, w64_id (x := 8 * (k : Int)) (by omega), Tr.run_need _ (by omega), Tr.run_need _ (by simp only [List.length_append, List.length_map, List.length_range, List.length_replicate, Int.ofNat_eq_natCast]; omega), Tr.run_ret, w64_id (by omega)]
    rw [Int.toNat_natCast, show (8 * (k : Int)) = ((8 * k : Nat) : Int) by omega, p2_8 k (by omega), show w - k = (w - (k + 1)) + 1 by omega]
    rw [show (((n : Int) / ((256 ^ k : Nat) : Int)) % 256).toNat = n / 256 ^ k % 256 from byte_div _ _]
    rw [show UInt8.ofNat (n / 256 ^ k % 256) = UInt8.ofNat (n / 256 ^ k) from ofNat_mod _]
    rw [set_fill (fun i => UInt8.ofNat (n / 256 ^ i))]
    rfl
  · simp only [LQ.bytes_Le.l0]
    rw [Tr.run_br, decide_eq_false (by simp), cond_false, Tr.run_ret]
    simp [leB]

theorem bytes_Le_eq (n : Nat) (w : Nat) (h1 : 1 ≤ w) (hw : w ≤ 8) (hn : n < 9223372036854775808) (hf : w < 8 → n < 256 ^ w) : LQ.bytes_Le n w = some (leB n w, 0) := by
  unfold LQ.bytes_Le LQ.bytes_Le.t
  have e : (Tr.br (decide ((w : Int) < (8 : Int))) (Tr.need ((0 : Int) ≤ w64 ((8 : Int) * (w : Int))) (Tr.ret (decide ((n : Int) ≥ w64 ((1 : Int) * p2 (w64 ((8 : Int) * (w : Int))) (64 : Nat)))))) (Tr.ret false)).run = some false := by
    rw [Tr.run_br]
    by_cases h : w < 8
    · have hp : 256 ^ w ≤ 256 ^ 7 := pow256_le (by omega)
      have := hf h
      rw [decide_eq_true (by omega), cond_true, w64_id (by omega), Tr.run_need _ (by omega), Tr.run_ret, show (8 * (w : Int)) = ((8 * w : Nat) : Int) by omega, p2_8 w hw, w64_id (by omega)]
      rw [decide_eq_false (by omega)]
    · rw [decide_eq_false (by omega), cond_false, Tr.run_ret]
  rw [Tr.run_bind, Tr.run_br, decide_eq_false (by omega), cond_false, Tr.run_br, decide_eq_false (by omega), cond_false, Tr.run_br, decide_eq_false (by omega), cond_false, e]
  simp only [Option.bind_some, Tr.run_br, cond_false]
  rw [Tr.run_need _ (by omega), Tr.run_bind, Int.toNat_natCast, Le_loop n w hw]
  rfl

theorem and_mask (n m : Nat) (hn : n < 18446744073709551616) (hm : m ≤ 63) : bitsI Go.BinOp.and Go.IntKind.i64 (n : Int) (((2 ^ m - 1 : Nat) : Nat) : Int) = ((n % 2 ^ m : Nat) : Int) := by
  have h1 : 2 ^ m ≤ 2 ^ 63 := Nat.pow_le_pow_right (by decide) hm
  unfold bitsI
  simp only [BitVec.ofInt_natCast, BitVec.toNat_and, BitVec.toNat_ofNat]
  rw [show IntKind.bits .i64 = 64 from rfl, Nat.mod_eq_of_lt (a := n) (by simpa using hn), Nat.mod_eq_of_lt (a := 2 ^ m - 1) (by omega), Nat.and_two_pow_sub_one_eq_mod]

theorem leB_succ (n k : Nat) : leB n (k + 1) = leB n k ++ [UInt8.ofNat (n / 256 ^ k)] := by
  unfold leB; rw [List.range_succ, List.map_append]; rfl

theorem fits_eq (n : Nat) (w : Nat) (h1 : 1 ≤ w) (hw : w ≤ 8) (hf : w < 8 → n < 256 ^ w) : LQ.r2_fits n w = some true := by
  unfold LQ.r2_fits LQ.r2_fits.t
  rw [Tr.run_bind, Tr.run_br, decide_eq_true (by omega), cond_true, Tr.run_br, decide_eq_true (by omega), cond_true, Tr.run_br, decide_eq_true (by omega), cond_true, Tr.run_br]
  by_cases h : w = 8
  · subst h; rfl
  · have := hf (by omega)
    rw [show ((w : Int) == 8) = false by simp; omega, cond_false, w64_id (by omega), u64_id (by omega), Tr.run_need _ (by omega), Tr.run_ret, show (8 * (w : Int)) = ((8 * w : Nat) : Int) by omega, p2_8 w hw]
    rw [show ((n : Int) / ((256 ^ w : Nat) : Int)) = 0 by rw [← Int.natCast_ediv, Nat.div_eq_of_lt this]; rfl]
    rfl

theorem Be_eq (n : Nat) (w : Nat) (h1 : 1 ≤ w) (hw : w ≤ 8) (hn : n < 9223372036854775808) (hf : w < 8 → n < 256 ^ w) : LQ.r2_Be n w = some ((leB n w).reverse, 0) := by
  unfold LQ.r2_Be LQ.r2_Be.t
  rw [Tr.run_bind, fits_eq n w h1 hw hf]
  simp only [Option.bind_some, Tr.run_br, Bool.not_true, cond_false]
  rw [Tr.run_need _ (by omega), Tr.run_bind, Int.toNat_natCast]
  have := loopO_steps (f := fun (d : Int × Int × List UInt8) ↦ (LQ.r2_Be.l0 d.fst d.snd.fst d.snd.snd).run) (fun k => (((n / 256 ^ k : Nat) : Int), (w : Int) - 1 - (k : Int), List.replicate (w - k) (0 : UInt8) ++ (leB n k).reverse)) (r := (leB n w).reverse) w ?_ ?_
  · rw [show w64 ((w : Int) - 1) = (w : Int) - 1 - ((0 : Nat) : Int) by rw [w64_id (by omega)]; omega]
    rw [show ((n / 256 ^ 0 : Nat) : Int) = (n : Int) by simp] at this
    rw [show List.replicate (w - 0) (0 : UInt8) ++ (leB n 0).reverse = List.replicate w 0 by simp [leB]] at this
    rw [this]
    rfl
  · intro k hk
    simp only [LQ.r2_Be.l0]
    have hd : n / 256 ^ k ≤ n := Nat.div_le_self _ _
    rw [Tr.run_br, decide_eq_true (by omega), cond_true, Tr.run_need _ (by simp only [List.length_append, List.length_replicate, Int.ofNat_eq_natCast]; omega), Tr.run_ret]
    have e := and_mask (n / 256 ^ k) 8 (by omega) (by decide)
    rw [show (((2 ^ 8 - 1 : Nat) : Nat) : Int) = 255 from rfl] at e
    rw [e, w64_id (by omega), w64_id (by omega)]
    rw [show (((n / 256 ^ k % 2 ^ 8 : Nat) : Int) % 256).toNat = n / 256 ^ k % 256 by omega, ofNat_mod, show ((w : Int) - 1 - (k : Int)).toNat = w - 1 - k by omega, show w - k = (w - 1 - k) + 1 by omega, set_fill_back, leB_succ, List.reverse_append]
    rw [show w - (k + 1) = w - 1 - k by omega, show ((n / 256 ^ k : Nat) : Int) / 256 = ((n / 256 ^ (k + 1) : Nat) : Int) by rw [Nat.pow_succ, ← Nat.div_div_eq_div_mul]; omega]
    rw [show (w : Int) - 1 - ((k + 1 : Nat) : Int) = (w : Int) - 1 - (k : Int) - 1 by omega]
    rfl
  · simp only [LQ.r2_Be.l0]
    rw [Tr.run_br, decide_eq_false (by omega), cond_false, Tr.run_ret]
    simp

theorem Le_eq (n : Nat) (w : Nat) (h1 : 1 ≤ w) (hw : w ≤ 8) (hn : n < 9223372036854775808) (hf : w < 8 → n < 256 ^ w) : LQ.r2_Le n w = some (leB n w, 0) := by
  unfold LQ.r2_Le LQ.r2_Le.t
  rw [Tr.run_bind, Be_eq n w h1 hw hn hf, Option.bind_some, Tr.run_bind, turned_eq _ (by rw [List.length_reverse, leB_len]; omega), List.reverse_reverse]
  rfl
end Go.Proofs.Ytipoadjhenjpiaa.Dg
end

