/- DgB: DgB DgM DgN DgT DgV DgW. -/
import Derived.Test.YtipoadjhenjpiaaLmH
import Derived.Test.YtipoadjhenjpiaaDgA
section
set_option linter.unusedVariables false
set_option linter.unusedSimpArgs false
namespace Go.LM
/-- Bytes, the lowest first. -/
def leB (n w : Nat) : List UInt8 := (List.range w).map fun i => UInt8.ofNat (n / 256 ^ i)
/-- Their number. -/
def leV : List UInt8 → Nat
  | [] => 0
  | b :: l => b.toNat + 256 * leV l
/-- The highest first. -/
def beV (s : List UInt8) : Nat := s.foldl (fun n b => n * 256 + b.toNat) 0
theorem leB_len (n w : Nat) : (leB n w).length = w := by simp [leB]
theorem beV_rev : ∀ (s : List UInt8), beV s.reverse = leV s
  | [] => rfl
  | b :: l => by
    have := beV_rev l
    unfold beV at this ⊢
    rw [List.reverse_cons, List.foldl_append, this]
    simp only [List.foldl_cons, List.foldl_nil, leV]
    omega
theorem leV_lt : ∀ (s : List UInt8), leV s < 256 ^ s.length
  | [] => by decide
  | b :: l => by
    have h1 := leV_lt l
    have h2 := b.toNat_lt
    rw [leV, List.length_cons, Nat.pow_succ]
    omega
theorem beV_lt (s : List UInt8) : beV s < 256 ^ s.length := by
  have := leV_lt s.reverse
  rw [← beV_rev, List.reverse_reverse, List.length_reverse] at this
  exact this
theorem beV_take (s : List UInt8) (k : Nat) (h : k < s.length) : beV (s.take (k + 1)) = beV (s.take k) * 256 + (s.getD k 0).toNat := by
  unfold beV
  rw [List.take_succ_eq_append_getElem h, List.foldl_append]
  simp only [getD_lt _ _ h, List.foldl_cons, List.foldl_nil]
theorem byte_div (n m : Nat) : (((n : Int) / (m : Int)) % 256).toNat = n / m % 256 := by
  rw [← Int.natCast_ediv]; omega
theorem ofNat_mod (m : Nat) : UInt8.ofNat (m % 256) = UInt8.ofNat m := by
  apply UInt8.toNat_inj.1; rw [UInt8.toNat_ofNat', UInt8.toNat_ofNat']; omega
theorem pow256_le {k n : Nat} (h : k ≤ n) : 256 ^ k ≤ 256 ^ n := Nat.pow_le_pow_right (by decide) h
end Go.LM
namespace Go.Proofs.Ytipoadjhenjpiaa.Dg
open Go.LM

theorem turned_eq (s : List UInt8) (h : s.length ≤ 140737488355328) : LQ.r2_turned s = some s.reverse := by
  unfold LQ.r2_turned LQ.r2_turned.t
  rw [Tr.run_need _ (by simp; omega), Tr.run_bind]
  rw [show (loopO (fun (d : Int × List UInt8) ↦ (LQ.r2_turned.l0 s d.fst d.snd).run) ((0 : Int), List.replicate (Int.ofNat s.length).toNat (0 : UInt8))) = some s.reverse from ?_]
  · rfl
  · have := loopO_steps (f := fun (d : Int × List UInt8) ↦ (LQ.r2_turned.l0 s d.fst d.snd).run) (fun k => ((k : Int), List.replicate (s.length - k) (0 : UInt8) ++ (s.take k).reverse)) (r := s.reverse) s.length ?_ ?_
    · simpa using this
    · intro k hk
      simp only [LQ.r2_turned.l0]
      rw [Tr.run_br, decide_eq_true (by simp; omega), cond_true, Tr.run_need _ (by simp; omega)]
      have e : w64 (w64 (Int.ofNat s.length - 1) - (k : Int)) = ((s.length - 1 - k : Nat) : Int) := by
        rw [w64_id (x := Int.ofNat s.length - 1) (by simp; omega), w64_id (by simp; omega)]; simp; omega
      rw [e, Tr.run_need _ (by simp; omega), Tr.run_ret, w64_id (by omega)]
      have e2 : s.length - k = (s.length - 1 - k) + 1 := by omega
      rw [e2, Int.toNat_natCast, set_fill_back, Int.toNat_natCast, List.take_succ_eq_append_getElem hk, List.reverse_append]
      simp only [List.reverse_cons, List.reverse_nil, List.nil_append, List.singleton_append, getD_lt _ _ hk]
      rw [show s.length - (k + 1) = s.length - 1 - k by omega]
      rfl
    · simp only [LQ.r2_turned.l0]
      rw [Tr.run_br, decide_eq_false (by simp), cond_false, Tr.run_ret]
      simp

theorem FromBe_eq (s : List UInt8) (h : s.length < 8) : LQ.r2_FromBe s = some ((beV s : Nat) : Int) := by
  unfold LQ.r2_FromBe LQ.r2_FromBe.t
  have hb : ∀ k < s.length, beV (s.take k) < 256 ^ 6 := fun k hk => Nat.lt_of_lt_of_le (beV_lt _) (pow256_le (by simp; omega))
  rw [Tr.run_bind, Tr.run_br, decide_eq_false (by simp; omega), cond_false, Tr.run_br, show (Int.ofNat s.length == (8 : Int)) = false by simp; omega, cond_false, Tr.run_ret]
  simp only [Option.bind_some, Tr.run_br, cond_false, Tr.run_bind]
  rw [show (loopO (fun (d : Int × Int) ↦ (LQ.r2_FromBe.l0 s d.fst d.snd).run) ((0 : Int), (0 : Int))) = some ((beV s : Nat) : Int) from ?_]
  · rfl
  · have := loopO_steps (f := fun (d : Int × Int) ↦ (LQ.r2_FromBe.l0 s d.fst d.snd).run) (fun k => (((beV (s.take k) : Nat) : Int), (k : Int))) (r := ((beV s : Nat) : Int)) s.length ?_ ?_
    · simpa [beV] using this
    · intro k hk
      simp only [LQ.r2_FromBe.l0]
      have h1 := hb k hk
      have h2 := (s.getD k 0).toNat_lt
      rw [Tr.run_br, decide_eq_true (by simp; omega), cond_true, Tr.run_need _ (by simp; omega), Tr.run_ret, w64_id (x := (k : Int) + 1) (by omega), Int.toNat_natCast]
      simp only [Int.ofNat_eq_natCast]
      rw [w64_id (x := ((s.getD k 0).toNat : Int)) (by omega), w64_id (x := (beV (s.take k) : Int) * 256) (by omega), w64_id (by omega), beV_take s k hk]
      simp only [Int.natCast_add, Int.natCast_mul]; rfl
    · simp only [LQ.r2_FromBe.l0]
      rw [Tr.run_br, decide_eq_false (by simp), cond_false, Tr.run_ret]
      simp

theorem FromLe_eq (s : List UInt8) (h : s.length < 8) : LQ.r2_FromLe s = some ((leV s : Nat) : Int) := by
  unfold LQ.r2_FromLe LQ.r2_FromLe.t
  rw [Tr.run_bind, turned_eq s (by omega), Option.bind_some, Tr.run_bind, FromBe_eq _ (by simpa using h), beV_rev]
  rfl

theorem p2_8 (k : Nat) (h : k ≤ 8) : p2 ((8 * k : Nat) : Int) 64 = ((256 ^ k : Nat) : Int) := by
  unfold p2
  rw [Int.toNat_natCast, Nat.min_eq_left (by omega), show (2:Nat) ^ (8 * k) = 256 ^ k by rw [Nat.pow_mul]]

theorem Le_loop (n : Nat) (w : Nat) (hw : w ≤ 8) : loopO (fun (d : Int × List UInt8) ↦ (LQ.bytes_Le.l0 n w d.fst d.snd).run) ((0 : Int), List.replicate w (0 : UInt8)) = some (leB n w) := by
  have := loopO_steps (f := fun (d : Int × List UInt8) ↦ (LQ.bytes_Le.l0 n w d.fst d.snd).run) (fun k => ((k : Int), (List.range k).map (fun i => UInt8.ofNat (n / 256 ^ i)) ++ List.replicate (w - k) (0 : UInt8))) (r := leB n w) w ?_ ?_
  · simpa using this
  · intro k hk
    simp only [LQ.bytes_Le.l0]
    rw [Tr.run_br, decide_eq_true (by omega), cond_true, w64_id (x := 8 * (k : Int)) (by omega), Tr.run_need _ (by omega), Tr.run_need _ (by simp only [List.length_append, List.length_map, List.length_range, List.length_replicate, Int.ofNat_eq_natCast]; omega), Tr.run_ret, w64_id (by omega)]
    rw [Int.toNat_natCast, show (8 * (k : Int)) = ((8 * k : Nat) : Int) by omega, p2_8 k (by omega), show w - k = (w - (k + 1)) + 1 by omega]
    rw [show (((n : Int) / ((256 ^ k : Nat) : Int)) % 256).toNat = n / 256 ^ k % 256 from byte_div _ _]
    rw [show UInt8.ofNat (n / 256 ^ k % 256) = UInt8.ofNat (n / 256 ^ k) from ofNat_mod _]
    rw [set_fill (fun i => UInt8.ofNat (n / 256 ^ i))]
    rfl
  · simp only [LQ.bytes_Le.l0]
    rw [Tr.run_br, decide_eq_false (by simp), cond_false, Tr.run_ret]
    simp [leB]

theorem bytes_Le_eq (n : Nat) (w : Nat) (h1 : 1 ≤ w) (hw : w ≤ 8) (hn : n < 9223372036854775808) (hf : w < 8 → n < 256 ^ w) : LQ.bytes_Le n w = some (leB n w, 0) := by
  unfold LQ.bytes_Le LQ.bytes_Le.t
  have e : (Tr.br (decide ((w : Int) < (8 : Int))) (Tr.need ((0 : Int) ≤ w64 ((8 : Int) * (w : Int))) (Tr.ret (decide ((n : Int) ≥ w64 ((1 : Int) * p2 (w64 ((8 : Int) * (w : Int))) (64 : Nat)))))) (Tr.ret false)).run = some false := by
    rw [Tr.run_br]
    by_cases h : w < 8
    · have hp : 256 ^ w ≤ 256 ^ 7 := pow256_le (by omega)
      have := hf h
      rw [decide_eq_true (by omega), cond_true, w64_id (by omega), Tr.run_need _ (by omega), Tr.run_ret, show (8 * (w : Int)) = ((8 * w : Nat) : Int) by omega, p2_8 w hw, w64_id (by omega)]
      rw [decide_eq_false (by omega)]
    · rw [decide_eq_false (by omega), cond_false, Tr.run_ret]
  rw [Tr.run_bind, Tr.run_br, decide_eq_false (by omega), cond_false, Tr.run_br, decide_eq_false (by omega), cond_false, Tr.run_br, decide_eq_false (by omega), cond_false, e]
  simp only [Option.bind_some, Tr.run_br, cond_false]
  rw [Tr.run_need _ (by omega), Tr.run_bind, Int.toNat_natCast, Le_loop n w hw]
  rfl

theorem and_mask (n m : Nat) (hn : n < 18446744073709551616) (hm : m ≤ 63) : bitsI Go.BinOp.and Go.IntKind.i64 (n : Int) (((2 ^ m - 1 : Nat) : Nat) : Int) = ((n % 2 ^ m : Nat) : Int) := by
  have h1 : 2 ^ m ≤ 2 ^ 63 := Nat.pow_le_pow_right (by decide) hm
  unfold bitsI
  simp only [BitVec.ofInt_natCast, BitVec.toNat_and, BitVec.toNat_ofNat]
  rw [show IntKind.bits .i64 = 64 from rfl, Nat.mod_eq_of_lt (a := n) (by simpa using hn), Nat.mod_eq_of_lt (a := 2 ^ m - 1) (by omega), Nat.and_two_pow_sub_one_eq_mod]

theorem leB_succ (n k : Nat) : leB n (k + 1) = leB n k ++ [UInt8.ofNat (n / 256 ^ k)] := by
  unfold leB; rw [List.range_succ, List.map_append]; rfl

theorem fits_eq (n : Nat) (w : Nat) (h1 : 1 ≤ w) (hw : w ≤ 8) (hf : w < 8 → n < 256 ^ w) : LQ.r2_fits n w = some true := by
  unfold LQ.r2_fits LQ.r2_fits.t
  rw [Tr.run_bind, Tr.run_br, decide_eq_true (by omega), cond_true, Tr.run_br, decide_eq_true (by omega), cond_true, Tr.run_br, decide_eq_true (by omega), cond_true, Tr.run_br]
  by_cases h : w = 8
  · subst h; rfl
  · have := hf (by omega)
    rw [show ((w : Int) == 8) = false by simp; omega, cond_false, w64_id (by omega), u64_id (by omega), Tr.run_need _ (by omega), Tr.run_ret, show (8 * (w : Int)) = ((8 * w : Nat) : Int) by omega, p2_8 w hw]
    rw [show ((n : Int) / ((256 ^ w : Nat) : Int)) = 0 by rw [← Int.natCast_ediv, Nat.div_eq_of_lt this]; rfl]
    rfl

theorem Be_eq (n : Nat) (w : Nat) (h1 : 1 ≤ w) (hw : w ≤ 8) (hn : n < 9223372036854775808) (hf : w < 8 → n < 256 ^ w) : LQ.r2_Be n w = some ((leB n w).reverse, 0) := by
  unfold LQ.r2_Be LQ.r2_Be.t
  rw [Tr.run_bind, fits_eq n w h1 hw hf]
  simp only [Option.bind_some, Tr.run_br, Bool.not_true, cond_false]
  rw [Tr.run_need _ (by omega), Tr.run_bind, Int.toNat_natCast]
  have := loopO_steps (f := fun (d : Int × Int × List UInt8) ↦ (LQ.r2_Be.l0 d.fst d.snd.fst d.snd.snd).run) (fun k => (((n / 256 ^ k : Nat) : Int), (w : Int) - 1 - (k : Int), List.replicate (w - k) (0 : UInt8) ++ (leB n k).reverse)) (r := (leB n w).reverse) w ?_ ?_
  · rw [show w64 ((w : Int) - 1) = (w : Int) - 1 - ((0 : Nat) : Int) by rw [w64_id (by omega)]; omega]
    rw [show ((n / 256 ^ 0 : Nat) : Int) = (n : Int) by simp] at this
    rw [show List.replicate (w - 0) (0 : UInt8) ++ (leB n 0).reverse = List.replicate w 0 by simp [leB]] at this
    rw [this]
    rfl
  · intro k hk
    simp only [LQ.r2_Be.l0]
    have hd : n / 256 ^ k ≤ n := Nat.div_le_self _ _
    rw [Tr.run_br, decide_eq_true (by omega), cond_true, Tr.run_need _ (by simp only [List.length_append, List.length_replicate, Int.ofNat_eq_natCast]; omega), Tr.run_ret]
    have e := and_mask (n / 256 ^ k) 8 (by omega) (by decide)
    rw [show (((2 ^ 8 - 1 : Nat) : Nat) : Int) = 255 from rfl] at e
    rw [e, w64_id (by omega), w64_id (by omega)]
    rw [show (((n / 256 ^ k % 2 ^ 8 : Nat) : Int) % 256).toNat = n / 256 ^ k % 256 by omega, ofNat_mod, show ((w : Int) - 1 - (k : Int)).toNat = w - 1 - k by omega, show w - k = (w - 1 - k) + 1 by omega, set_fill_back, leB_succ, List.reverse_append]
    rw [show w - (k + 1) = w - 1 - k by omega, show ((n / 256 ^ k : Nat) : Int) / 256 = ((n / 256 ^ (k + 1) : Nat) : Int) by rw [Nat.pow_succ, ← Nat.div_div_eq_div_mul]; omega]
    rw [show (w : Int) - 1 - ((k + 1 : Nat) : Int) = (w : Int) - 1 - (k : Int) - 1 by omega]
    rfl
  · simp only [LQ.r2_Be.l0]
    rw [Tr.run_br, decide_eq_false (by omega), cond_false, Tr.run_ret]
    simp

theorem Le_eq (n : Nat) (w : Nat) (h1 : 1 ≤ w) (hw : w ≤ 8) (hn : n < 9223372036854775808) (hf : w < 8 → n < 256 ^ w) : LQ.r2_Le n w = some (leB n w, 0) := by
  unfold LQ.r2_Le LQ.r2_Le.t
  rw [Tr.run_bind, Be_eq n w h1 hw hn hf, Option.bind_some, Tr.run_bind, turned_eq _ (by rw [List.length_reverse, leB_len]; omega), List.reverse_reverse]
  rfl
end Go.Proofs.Ytipoadjhenjpiaa.Dg
end

section
set_option linter.unusedVariables false
set_option linter.unusedSimpArgs false
namespace Go.LM
/-! MD5 as it is. -/
abbrev W32 := BitVec 32
def up (x : W32) : Int := (x.toNat : Int)
theorem up_nn (x : W32) : 0 ≤ up x := by unfold up; omega
theorem up_lt (x : W32) : up x < 4294967296 := by have := x.isLt; unfold up; omega
theorem wrap_up (x : W32) : IntKind.u32.wrap (up x) = up x := u32_id ⟨up_nn x, up_lt x⟩
theorem wrap_nat (n : Nat) : IntKind.u32.wrap (n : Int) = up (BitVec.ofNat 32 n) := by
  rw [IntKind.wrap_u32]; unfold up; rw [BitVec.toNat_ofNat]; omega
theorem up_add (x y : W32) : IntKind.u32.wrap (up x + up y) = up (x + y) := by
  unfold up; rw [show ((x.toNat : Int) + y.toNat) = ((x.toNat + y.toNat : Nat) : Int) by omega, wrap_nat]; unfold up
  rw [BitVec.toNat_add, BitVec.toNat_ofNat]
theorem ofInt_up (x : W32) : BitVec.ofInt (IntKind.bits .u32) (up x) = x := by
  unfold up
  rw [BitVec.ofInt_natCast]
  show BitVec.ofNat 32 x.toNat = x
  simp
theorem up_and (x y : W32) : bitsI .and .u32 (up x) (up y) = up (x &&& y) := by unfold bitsI; rw [ofInt_up, ofInt_up]; rfl
theorem up_or (x y : W32) : bitsI .or .u32 (up x) (up y) = up (x ||| y) := by unfold bitsI; rw [ofInt_up, ofInt_up]; rfl
theorem up_xor (x y : W32) : bitsI .xor .u32 (up x) (up y) = up (x ^^^ y) := by unfold bitsI; rw [ofInt_up, ofInt_up]; rfl
theorem up_not (x : W32) : bitsI .xor .u32 4294967295 (up x) = up (~~~ x) := by
  rw [show (4294967295 : Int) = up (BitVec.allOnes 32) from rfl, up_xor, BitVec.not_def]
theorem up_shl (x : W32) (r : Nat) (h : r ≤ 32) : IntKind.u32.wrap (up x * p2 (r : Int) 32) = up (x <<< r) := by
  unfold up p2
  rw [Int.toNat_natCast, Nat.min_eq_left h, ← Int.natCast_mul, wrap_nat]; unfold up
  rw [BitVec.toNat_shiftLeft, BitVec.toNat_ofNat, Nat.shiftLeft_eq]
theorem up_shr (x : W32) (r : Nat) (h : r ≤ 32) : up x / p2 (r : Int) 32 = up (x >>> r) := by
  unfold up p2
  rw [Int.toNat_natCast, Nat.min_eq_left h, ← Int.natCast_ediv, BitVec.toNat_ushiftRight, Nat.shiftRight_eq_div_pow]

abbrev Q4 := W32 × W32 × W32 × W32
def upQ (q : Q4) : List Int := [up q.1, up q.2.1, up q.2.2.1, up q.2.2.2]
def Kl : List W32 := [0xd76aa478, 0xe8c7b756, 0x242070db, 0xc1bdceee, 0xf57c0faf, 0x4787c62a, 0xa8304613, 0xfd469501, 0x698098d8, 0x8b44f7af, 0xffff5bb1, 0x895cd7be, 0x6b901122, 0xfd987193, 0xa679438e, 0x49b40821,
  0xf61e2562, 0xc040b340, 0x265e5a51, 0xe9b6c7aa, 0xd62f105d, 0x02441453, 0xd8a1e681, 0xe7d3fbc8, 0x21e1cde6, 0xc33707d6, 0xf4d50d87, 0x455a14ed, 0xa9e3e905, 0xfcefa3f8, 0x676f02d9, 0x8d2a4c8a,
  0xfffa3942, 0x8771f681, 0x6d9d6122, 0xfde5380c, 0xa4beea44, 0x4bdecfa9, 0xf6bb4b60, 0xbebfbc70, 0x289b7ec6, 0xeaa127fa, 0xd4ef3085, 0x04881d05, 0xd9d4d039, 0xe6db99e5, 0x1fa27cf8, 0xc4ac5665,
  0xf4292244, 0x432aff97, 0xab9423a7, 0xfc93a039, 0x655b59c3, 0x8f0ccc92, 0xffeff47d, 0x85845dd1, 0x6fa87e4f, 0xfe2ce6e0, 0xa3014314, 0x4e0811a1, 0xf7537e82, 0xbd3af235, 0x2ad7d2bb, 0xeb86d391]
def Rl : List Nat := [7, 12, 17, 22, 5, 9, 14, 20, 4, 11, 16, 23, 6, 10, 15, 21]
def Kn (i : Nat) : W32 := Kl.getD i 0
def Rn (i : Nat) : Nat := Rl.getD (i / 16 * 4 + i % 4) 0
def Fn4 (i : Nat) (b c d : W32) : W32 := if i < 16 then (b &&& c) ||| (~~~b &&& d) else if i < 32 then (d &&& b) ||| (~~~d &&& c) else if i < 48 then b ^^^ c ^^^ d else c ^^^ (b ||| ~~~d)
def Gn (i : Nat) : Nat := if i < 16 then i else if i < 32 then (5 * i + 1) % 16 else if i < 48 then (3 * i + 5) % 16 else 7 * i % 16
def rot (x : W32) (r : Nat) : W32 := (x <<< r) ||| (x >>> (32 - r))
def word (s : List UInt8) (j : Nat) : W32 := BitVec.ofNat 32 (leV ((s.drop (4 * j)).take 4))
def stp (s : List UInt8) (i : Nat) (q : Q4) : Q4 :=
  (q.2.2.2, q.2.1 + rot (q.1 + Fn4 i q.2.1 q.2.2.1 q.2.2.2 + Kn i + word s (Gn i)) (Rn i), q.2.1, q.2.2.1)
def rnd (s : List UInt8) (n : Q4) : Nat → Q4
  | 0 => n
  | k + 1 => stp s k (rnd s n k)
def blk (s : List UInt8) (n : Q4) : Q4 := let q := rnd s n 64; (n.1 + q.1, n.2.1 + q.2.1, n.2.2.1 + q.2.2.1, n.2.2.2 + q.2.2.2)
theorem Gn_lt (i : Nat) (h : i < 64) : Gn i < 16 := by unfold Gn; split <;> (try split) <;> (try split) <;> omega
theorem Rn_le : ∀ i < 64, Rn i ≤ 31 ∧ 1 ≤ Rn i := by decide +kernel
end Go.LM
namespace Go.Proofs.Ytipoadjhenjpiaa.Dg
open Go.LM

theorem mix_eq (i : Nat) (h : i < 64) (b c d : W32) : LQ.r4_mix i (up b) (up c) (up d) = some (up (Fn4 i b c d), (Gn i : Int)) := by
  unfold LQ.r4_mix LQ.r4_mix.t
  have e : w64 ((i : Int).tdiv 16) = ((i / 16 : Nat) : Int) := by
    rw [Int.tdiv_eq_ediv_of_nonneg (by omega), w64_id (by omega)]; omega
  rw [e]
  simp only [Tr.run_br, Tr.run_ret, up_and, up_or, up_xor, up_not, wrap_up]
  unfold Fn4 Gn
  by_cases h1 : i < 16
  · rw [show (((i / 16 : Nat) : Int) == 0) = true by simp; omega, cond_true, if_pos h1, if_pos h1]
  · rw [show (((i / 16 : Nat) : Int) == 0) = false by simp; omega, cond_false, if_neg h1, if_neg h1]
    by_cases h2 : i < 32
    · rw [show (((i / 16 : Nat) : Int) == 1) = true by simp; omega, cond_true, if_pos h2, if_pos h2]
      rw [w64_id (x := 5 * (i : Int)) (by omega), w64_id (by omega), Int.tmod_eq_emod_of_nonneg (by omega)]
      congr 2
    · rw [show (((i / 16 : Nat) : Int) == 1) = false by simp; omega, cond_false, if_neg h2, if_neg h2]
      by_cases h3 : i < 48
      · rw [show (((i / 16 : Nat) : Int) == 2) = true by simp; omega, cond_true, if_pos h3, if_pos h3]
        rw [w64_id (x := 3 * (i : Int)) (by omega), w64_id (by omega), Int.tmod_eq_emod_of_nonneg (by omega)]
        congr 2
      · rw [show (((i / 16 : Nat) : Int) == 2) = false by simp; omega, cond_false, if_neg h3, if_neg h3]
        rw [w64_id (x := 7 * (i : Int)) (by omega), Int.tmod_eq_emod_of_nonneg (by omega)]
        congr 2

theorem turns_eq (i : Nat) (h : i < 64) : LQ.r4_turns i = some (Rn i : Int) := by
  unfold LQ.r4_turns LQ.r4_turns.t
  have e : w64 (w64 (w64 ((i : Int).tdiv (16 : Int)) * (4 : Int)) + (i : Int).tmod (4 : Int)) = ((i / 16 * 4 + i % 4 : Nat) : Int) := by
    rw [Int.tdiv_eq_ediv_of_nonneg (by omega), Int.tmod_eq_emod_of_nonneg (by omega), w64_id (x := (i : Int) / 16) (by omega), w64_id (x := (i : Int) / 16 * 4) (by omega), w64_id (by omega)]; omega
  rw [e, Tr.run_need _ (by omega), Tr.run_ret, Int.toNat_natCast]
  have hj : i / 16 * 4 + i % 4 < 16 := by omega
  unfold Rn
  generalize i / 16 * 4 + i % 4 = j at hj
  have : ∀ j < 16, ((((((((((((((((((List.replicate (16 : Nat) (0 : Int)).set (0 : Nat) (7 : Int)).set (1 : Nat) (12 : Int)).set (2 : Nat) (17 : Int)).set (3 : Nat) (22 : Int)).set (4 : Nat) (5 : Int)).set (5 : Nat) (9 : Int)).set (6 : Nat) (14 : Int)).set (7 : Nat) (20 : Int)).set (8 : Nat) (4 : Int)).set (9 : Nat) (11 : Int)).set (10 : Nat) (16 : Int)).set (11 : Nat) (23 : Int)).set (12 : Nat) (6 : Int)).set (13 : Nat) (10 : Int)).set (14 : Nat) (15 : Int)).set (15 : Nat) (21 : Int)).getD j 0) = ((Rl.getD j 0 : Nat) : Int) := by decide +kernel
  exact congrArg some (this j hj)

theorem table_eq : LQ.r4_table = some (Kl.map up) := by unfold LQ.r4_table LQ.r4_table.t; rw [Tr.run_ret]; congr 1
theorem sines_eq : LQ.dg_sines = some (Kl.map up) := by unfold LQ.dg_sines LQ.dg_sines.t; rw [Tr.run_ret]; congr 1
theorem K_get (i : Nat) (h : i < 64) : (Kl.map up).getD i 0 = up (Kn i) := by
  unfold Kn
  rw [getD_lt _ _ (by simpa [Kl] using h), getD_lt _ _ (by simpa [Kl] using h), List.getElem_map]
end Go.Proofs.Ytipoadjhenjpiaa.Dg
end

section
set_option linter.unusedVariables false
set_option linter.unusedSimpArgs false
namespace Go.Proofs.Ytipoadjhenjpiaa.Dg
open Go.LM

theorem wordOf (s : List UInt8) (hs : s.length = 64) (g : Nat) (hg : g < 16) : LQ.r2_FromLe (List.take (w64 (w64 (4 * (g : Int)) + 4) - w64 (4 * (g : Int))).toNat (List.drop (w64 (4 * (g : Int))).toNat s)) = some ((leV ((s.drop (4 * g)).take 4) : Nat) : Int) := by
  rw [w64_id (x := 4 * (g : Int)) (by omega), w64_id (by omega), show (4 * (g : Int) + 4 - 4 * (g : Int)).toNat = 4 by omega, show (4 * (g : Int)).toNat = 4 * g by omega]
  exact FromLe_eq _ (by simp; omega)

theorem block_step (s : List UInt8) (hs : s.length = 64) (z n0 : List Int) (k : Nat) (hk : k < 64) (q : Q4) :
    (LQ.r4_block.l0 s (Kl.map up) (up q.1) (up q.2.1) (up q.2.2.1) (up q.2.2.2) (k : Int) n0 z).run = some (.inl (up (stp s k q).1, up (stp s k q).2.1, up (stp s k q).2.2.1, up (stp s k q).2.2.2, ((k + 1 : Nat) : Int), n0, z)) := by
  unfold LQ.r4_block.l0
  have hg := Gn_lt k hk
  have hr := Rn_le k hk
  rw [Tr.run_br, decide_eq_true (by omega), cond_true, Tr.run_bind, mix_eq k hk, Option.bind_some]
  simp only []
  rw [Tr.run_need _ (by rw [w64_id (x := 4 * ((Gn k : Nat) : Int)) (by omega), w64_id (by omega), hs]; simp; omega), Tr.run_bind, wordOf s hs _ hg, Option.bind_some, Tr.run_need _ (by simp [Kl]; omega), Tr.run_bind, turns_eq k hk, Option.bind_some, Tr.run_need _ (by omega), u64_id (by omega), Tr.run_need _ (by omega), Tr.run_ret, w64_id (by omega)]
  rw [Int.toNat_natCast, K_get k hk, wrap_nat, up_add, up_add, up_add, up_shl _ _ (by omega), show (32 : Int) - ((Rn k : Nat) : Int) = ((32 - Rn k : Nat) : Int) by omega, up_shr _ _ (by omega), up_or, wrap_up, up_add]
  rfl

theorem block_eq (s : List UInt8) (hs : s.length = 64) (n : Q4) : LQ.r4_block (upQ n) s = some (upQ (blk s n)) := by
  unfold LQ.r4_block LQ.r4_block.t
  rw [Tr.run_need _ (by omega), Tr.run_need _ (by omega), Tr.run_need _ (by omega), Tr.run_need _ (by omega), Tr.run_bind, table_eq, Option.bind_some, Tr.run_bind]
  have := loopO_steps (f := fun (d : Int × Int × Int × Int × Int × List Int × List Int) ↦ (LQ.r4_block.l0 s (Kl.map up) d.fst d.snd.fst d.snd.snd.fst d.snd.snd.snd.fst d.snd.snd.snd.snd.fst d.snd.snd.snd.snd.snd.fst d.snd.snd.snd.snd.snd.snd).run)
    (fun k => (up (rnd s n k).1, up (rnd s n k).2.1, up (rnd s n k).2.2.1, up (rnd s n k).2.2.2, (k : Int), upQ n, [(0 : Int), 0, 0, 0])) (r := (up (rnd s n 64).1, up (rnd s n 64).2.1, up (rnd s n 64).2.2.1, up (rnd s n 64).2.2.2, upQ n, [(0 : Int), 0, 0, 0])) 64 (fun k hk => block_step s hs _ _ k hk _) ?_
  · have e : loopO (fun (d : Int × Int × Int × Int × Int × List Int × List Int) ↦ (LQ.r4_block.l0 s (Kl.map up) d.fst d.snd.fst d.snd.snd.fst d.snd.snd.snd.fst d.snd.snd.snd.snd.fst d.snd.snd.snd.snd.snd.fst d.snd.snd.snd.snd.snd.snd).run) ((upQ n).getD (0 : Nat) (0 : Int), (upQ n).getD (1 : Nat) (0 : Int), (upQ n).getD (2 : Nat) (0 : Int), (upQ n).getD (3 : Nat) (0 : Int), (0 : Int), upQ n, [(0 : Int), (0 : Int), (0 : Int), (0 : Int)]) = _ := this
    rw [e, Option.bind_some, Tr.run_need _ (by omega), Tr.run_need _ (by omega), Tr.run_need _ (by omega), Tr.run_need _ (by omega), Tr.run_ret]
    show some [IntKind.u32.wrap (up n.1 + up (rnd s n 64).1), IntKind.u32.wrap (up n.2.1 + up (rnd s n 64).2.1), IntKind.u32.wrap (up n.2.2.1 + up (rnd s n 64).2.2.1), IntKind.u32.wrap (up n.2.2.2 + up (rnd s n 64).2.2.2)] = _
    rw [up_add, up_add, up_add, up_add]
    rfl
  · show (LQ.r4_block.l0 s (Kl.map up) _ _ _ _ ((64 : Nat) : Int) _ _).run = _
    unfold LQ.r4_block.l0
    rw [Tr.run_br, decide_eq_false (by omega), cond_false, Tr.run_ret]

/-! ### the program's block -/
theorem word4 (b0 b1 b2 b3 : UInt8) : BitVec.ofNat 32 b0.toNat ||| (BitVec.ofNat 32 b1.toNat <<< 8) ||| (BitVec.ofNat 32 b2.toNat <<< 16) ||| (BitVec.ofNat 32 b3.toNat <<< 24) = BitVec.ofNat 32 (leV [b0, b1, b2, b3]) := by
  apply BitVec.eq_of_toNat_eq
  have h0 := b0.toNat_lt
  have h1 := b1.toNat_lt
  have h2 := b2.toNat_lt
  have h3 := b3.toNat_lt
  simp only [BitVec.toNat_or, BitVec.toNat_shiftLeft, BitVec.toNat_ofNat, leV]
  rw [Nat.mod_eq_of_lt (a := b0.toNat) (by omega), Nat.mod_eq_of_lt (a := b1.toNat) (by omega), Nat.mod_eq_of_lt (a := b2.toNat) (by omega), Nat.mod_eq_of_lt (a := b3.toNat) (by omega)]
  rw [Nat.mod_eq_of_lt (a := b1.toNat <<< 8) (by rw [Nat.shiftLeft_eq]; omega), Nat.mod_eq_of_lt (a := b2.toNat <<< 16) (by rw [Nat.shiftLeft_eq]; omega), Nat.mod_eq_of_lt (a := b3.toNat <<< 24) (by rw [Nat.shiftLeft_eq]; omega)]
  rw [Nat.or_comm b0.toNat, ← Nat.shiftLeft_add_eq_or_of_lt (by omega)]
  rw [Nat.or_comm _ (b2.toNat <<< 16), ← Nat.shiftLeft_add_eq_or_of_lt (by rw [Nat.shiftLeft_eq]; omega)]
  rw [Nat.or_comm _ (b3.toNat <<< 24), ← Nat.shiftLeft_add_eq_or_of_lt (by rw [Nat.shiftLeft_eq, Nat.shiftLeft_eq]; omega)]
  simp only [Nat.shiftLeft_eq]
  omega

theorem take4 (s : List UInt8) (j : Nat) (h : 4 * j + 4 ≤ s.length) : (s.drop (4 * j)).take 4 = [s.getD (4 * j) 0, s.getD (4 * j + 1) 0, s.getD (4 * j + 2) 0, s.getD (4 * j + 3) 0] := by
  rw [getD_lt _ _ (by omega), getD_lt _ _ (by omega), getD_lt _ _ (by omega), getD_lt _ _ (by omega)]
  rw [List.drop_eq_getElem_cons (by omega), List.drop_eq_getElem_cons (by omega), List.drop_eq_getElem_cons (by omega), List.drop_eq_getElem_cons (by omega)]
  rfl

theorem shl_256 (x : W32) (r : Nat) (h : r ≤ 32) : IntKind.u32.wrap (up x * ((2 ^ r : Nat) : Int)) = up (x <<< r) := by
  have := up_shl x r h
  unfold p2 at this
  rwa [Int.toNat_natCast, Nat.min_eq_left h] at this

theorem word_step (st : List Int) (b : List UInt8) (hb : b.length = 64) (h m : Int) (k : Nat) (hk : k < 16) (row : List Int) :
    (LQ.turn.l0 (k : Int) (st, b, h, m) row).run = some (.inl (((k + 1 : Nat) : Int), (st, b, h, m), row.set k (up (word b k)))) := by
  unfold LQ.turn.l0
  rw [Tr.run_br, decide_eq_true (by omega), cond_true, w64_id (x := 4 * (k : Int)) (by omega), w64_id (x := 4 * (k : Int) + 4) (by omega), Tr.run_need _ (by omega), Tr.run_need _ (by omega), Tr.run_need _ (by omega), Tr.run_need _ (by omega), Tr.run_need _ (by omega), Tr.run_need _ (by omega), Tr.run_ret, w64_id (by omega)]
  simp only []
  rw [show (4 * (k : Int) + 0).toNat = 4 * k by omega, show (4 * (k : Int) + 1).toNat = 4 * k + 1 by omega, show (4 * (k : Int) + 2).toNat = 4 * k + 2 by omega, show (4 * (k : Int) + 3).toNat = 4 * k + 3 by omega]
  simp only [Int.ofNat_eq_natCast, wrap_nat]
  rw [show (256 : Int) = ((2 ^ 8 : Nat) : Int) from rfl, show (65536 : Int) = ((2 ^ 16 : Nat) : Int) from rfl, show (16777216 : Int) = ((2 ^ 24 : Nat) : Int) from rfl]
  simp only [shl_256 _ 8 (by decide), shl_256 _ 16 (by decide), shl_256 _ 24 (by decide), up_or, wrap_up, Int.toNat_natCast]
  rw [word4, ← take4 b k (by omega)]
  rfl

def Xs (b : List UInt8) : List Int := (List.range 16).map fun j => up (word b j)
theorem X_get (b : List UInt8) (j : Nat) (h : j < 16) : (Xs b).getD j 0 = up (word b j) := by
  unfold Xs; rw [getD_lt _ _ (by simpa using h)]; simp

theorem words_eq (st : List Int) (b : List UInt8) (hb : b.length = 64) (h m : Int) :
    loopO (fun (d : Int × (List Int × List UInt8 × Int × Int) × List Int) ↦ (LQ.turn.l0 d.fst d.snd.fst d.snd.snd).run) ((0 : Int), (st, b, h, m), List.replicate 16 (0 : Int)) = some ((st, b, h, m), Xs b) := by
  have := loopO_steps (f := fun (d : Int × (List Int × List UInt8 × Int × Int) × List Int) ↦ (LQ.turn.l0 d.fst d.snd.fst d.snd.snd).run) (fun k => ((k : Int), (st, b, h, m), (List.range k).map (fun j => up (word b j)) ++ List.replicate (16 - k) (0 : Int))) (r := ((st, b, h, m), Xs b)) 16 ?_ ?_
  · exact this
  · intro k hk
    show (LQ.turn.l0 (k : Int) (st, b, h, m) _).run = _
    rw [word_step st b hb h m k hk]
    simp only []
    rw [show 16 - k = (16 - (k + 1)) + 1 by omega, set_fill (fun j => up (word b j))]
  · show (LQ.turn.l0 ((16 : Nat) : Int) (st, b, h, m) _).run = _
    unfold LQ.turn.l0
    rw [Tr.run_br, decide_eq_false (by omega), cond_false, Tr.run_ret]
    simp [Xs]

theorem rot_eq (x : W32) (r : Nat) (h1 : 1 ≤ r) (h : r ≤ 31) : LQ.RotateLeft32 (up x) (r : Int) = some (up (rot x r)) := by
  unfold LQ.RotateLeft32 LQ.RotateLeft32.t
  have e : IntKind.u64.wrap (bitsI Go.BinOp.and Go.IntKind.u64 (Go.IntKind.u64.wrap (r : Int)) (31 : Int)) = (r : Int) := by
    rw [u64_id (x := (r : Int)) (by omega)]
    unfold bitsI
    rw [show (31 : Int) = ((31 : Nat) : Int) from rfl, BitVec.ofInt_natCast, BitVec.ofInt_natCast]
    simp only [BitVec.toNat_and, BitVec.toNat_ofNat]
    rw [show IntKind.bits .u64 = 64 from rfl, Nat.mod_eq_of_lt (a := r) (by omega), Nat.mod_eq_of_lt (a := 31) (by omega), show (31 : Nat) = 2 ^ 5 - 1 from rfl, Nat.and_two_pow_sub_one_eq_mod, Nat.mod_eq_of_lt (by omega)]
    exact u64_id (by omega)
  rw [e, Tr.run_need _ (by omega), u64_id (by omega), Tr.run_need _ (by omega), Tr.run_ret, up_shl _ _ (by omega), show (32 : Int) - (r : Int) = ((32 - r : Nat) : Int) by omega, up_shr _ _ (by omega), up_or, wrap_up]
  rfl

def byL : List (List Int) := [[7, 12, 17, 22], [5, 9, 14, 20], [4, 11, 16, 23], [6, 10, 15, 21]]
theorem by_get (k : Nat) (h : k < 64) : (byL.getD (k / 16) (List.replicate 4 0)).getD (k % 4) 0 = ((Rn k : Nat) : Int) := by
  have : ∀ a < 4, ∀ b < 4, (byL.getD a (List.replicate 4 0)).getD b 0 = ((Rl.getD (a * 4 + b) 0 : Nat) : Int) := by decide +kernel
  exact this _ (by omega) _ (by omega)

theorem f0 (b c d : W32) : d ^^^ (b &&& (c ^^^ d)) = (b &&& c) ||| (~~~b &&& d) := by
  ext i hi
  simp only [BitVec.getElem_xor, BitVec.getElem_and, BitVec.getElem_or, BitVec.getElem_not]
  cases b[i] <;> cases c[i] <;> cases d[i] <;> rfl
theorem f1 (b c d : W32) : c ^^^ (d &&& (b ^^^ c)) = (d &&& b) ||| (~~~d &&& c) := f0 d b c

def gn (i : Nat) : Nat := if i < 16 then i else if i < 32 then 5 * i + 1 else if i < 48 then 3 * i + 5 else 7 * i
theorem gn_mod (i : Nat) : (gn i) % 16 = Gn i ∨ 64 ≤ i := by unfold gn Gn; split <;> (try split) <;> (try split) <;> omega

theorem turn_step (b : List UInt8) (st : List Int) (h m : Int) (k : Nat) (hk : k < 64) (q : Q4) :
    (LQ.turn.l1 (Kl.map up) (up q.1) (up q.2.1) (up q.2.2.1) (up q.2.2.2) (k : Int) (st, b, h, m) (Xs b) byL).run = some (.inl (up (stp b k q).1, up (stp b k q).2.1, up (stp b k q).2.2.1, up (stp b k q).2.2.2, ((k + 1 : Nat) : Int), (st, b, h, m), Xs b, byL)) := by
  have hr := Rn_le k hk
  have e : w64 ((k : Int).tdiv 16) = ((k / 16 : Nat) : Int) := by
    rw [Int.tdiv_eq_ediv_of_nonneg (by omega), w64_id (by omega)]; omega
  have fin : ∀ (g : Nat) (f : W32), g % 16 = Gn k → f = Fn4 k q.2.1 q.2.2.1 q.2.2.2 →
      (Tr.need ((0 : Int) ≤ (g : Int).tmod (16 : Int) ∧ (g : Int).tmod (16 : Int) < (16 : Int)) (Tr.need ((0 : Int) ≤ w64 ((k : Int).tdiv (16 : Int)) ∧ w64 ((k : Int).tdiv (16 : Int)) < (4 : Int)) (Tr.need ((0 : Int) ≤ (k : Int).tmod (4 : Int) ∧ (k : Int).tmod (4 : Int) < (4 : Int)) (Tr.bind Int (LQ.RotateLeft32 (Go.IntKind.u32.wrap (up f + Go.IntKind.u32.wrap (Go.IntKind.u32.wrap (up q.1 + (Kl.map up).getD (k : Int).toNat (0 : Int)) + (Xs b).getD ((g : Int).tmod (16 : Int)).toNat (0 : Int)))) ((byL.getD (w64 ((k : Int).tdiv (16 : Int))).toNat (List.replicate (4 : Nat) (0 : Int))).getD ((k : Int).tmod (4 : Int)).toNat (0 : Int))) (0 : Int) fun (r5 : Int) ↦ Tr.ret (Sum.inl (β := Int × Int × Int × Int × List Int × List UInt8 × Int × Int) (up q.2.2.2, Go.IntKind.u32.wrap (up q.2.1 + r5), up q.2.1, up q.2.2.1, w64 ((k : Int) + (1 : Int)), (st, b, h, m), Xs b, byL)))))).run
      = some (.inl (up (stp b k q).1, up (stp b k q).2.1, up (stp b k q).2.2.1, up (stp b k q).2.2.2, ((k + 1 : Nat) : Int), (st, b, h, m), Xs b, byL)) := by
    intro g f hg hf
    have hG := Gn_lt k hk
    rw [e, Int.tmod_eq_emod_of_nonneg (by omega), Int.tmod_eq_emod_of_nonneg (by omega), show (g : Int) % 16 = ((Gn k : Nat) : Int) by omega, Tr.run_need _ (by omega), Tr.run_need _ (by omega), Tr.run_need _ (by omega), Tr.run_bind]
    rw [show ((k : Int) % 4).toNat = k % 4 by omega, Int.toNat_natCast, Int.toNat_natCast, Int.toNat_natCast, by_get k hk, X_get b _ hG, K_get k hk, up_add, up_add, up_add, rot_eq _ _ hr.2 hr.1, Option.bind_some, Tr.run_ret, up_add, w64_id (by omega), hf]
    have : Fn4 k q.2.1 q.2.2.1 q.2.2.2 + (q.1 + Kn k + word b (Gn k)) = q.1 + Fn4 k q.2.1 q.2.2.1 q.2.2.2 + Kn k + word b (Gn k) := by ac_rfl
    rw [this]
    rfl
  unfold LQ.turn.l1
  rw [Tr.run_br, decide_eq_true (by omega), cond_true, Tr.run_need _ (by omega), Tr.run_bind, e]
  have hgm := (gn_mod k).resolve_right (by omega)
  simp only [up_and, up_or, up_xor, up_not, wrap_up]
  by_cases h1 : k < 16
  · rw [show (((k / 16 : Nat) : Int) == 0) = true by simp; omega]
    simp only [Tr.run_br, cond_true, cond_false, Tr.run_ret, Option.bind_some, Tr.run_bind]
    rw [← e]
    exact fin k _ (by rw [← hgm]; unfold gn; rw [if_pos h1]) (by unfold Fn4; rw [if_pos h1, f0])
  · rw [show (((k / 16 : Nat) : Int) == 0) = false by simp; omega]
    by_cases h2 : k < 32
    · rw [show (((k / 16 : Nat) : Int) == 1) = true by simp; omega]
      simp only [Tr.run_br, cond_true, cond_false, Tr.run_ret, Option.bind_some, Tr.run_bind]
      rw [← e, w64_id (x := 5 * (k : Int)) (by omega), w64_id (x := 5 * (k : Int) + 1) (by omega)]
      exact fin (5 * k + 1) _ (by rw [← hgm]; unfold gn; rw [if_neg h1, if_pos h2]) (by unfold Fn4; rw [if_neg h1, if_pos h2, f1])
    · rw [show (((k / 16 : Nat) : Int) == 1) = false by simp; omega]
      by_cases h3 : k < 48
      · rw [show (((k / 16 : Nat) : Int) == 2) = true by simp; omega]
        simp only [Tr.run_br, cond_true, cond_false, Tr.run_ret, Option.bind_some, Tr.run_bind]
        rw [← e, w64_id (x := 3 * (k : Int)) (by omega), w64_id (x := 3 * (k : Int) + 5) (by omega)]
        exact fin (3 * k + 5) _ (by rw [← hgm]; unfold gn; rw [if_neg h1, if_neg h2, if_pos h3]) (by unfold Fn4; rw [if_neg h1, if_neg h2, if_pos h3])
      · rw [show (((k / 16 : Nat) : Int) == 2) = false by simp; omega]
        simp only [Tr.run_br, cond_true, cond_false, Tr.run_ret, Option.bind_some, Tr.run_bind]
        rw [← e, w64_id (x := 7 * (k : Int)) (by omega)]
        exact fin (7 * k) _ (by rw [← hgm]; unfold gn; rw [if_neg h1, if_neg h2, if_neg h3]) (by unfold Fn4; rw [if_neg h1, if_neg h2, if_neg h3])

theorem l2_steps (q n : Q4) (z : List Int × List UInt8 × Int × Int) (b : List UInt8) (h m : Int) :
    loopO (fun (d : Int × List Int × List UInt8 × Int × Int) ↦ (LQ.turn.l2 (up q.1, up q.2.1, up q.2.2.1, up q.2.2.2, z) d.fst d.snd.fst d.snd.snd.fst d.snd.snd.snd.fst d.snd.snd.snd.snd).run) ((0 : Int), upQ n, b, h, m)
      = some (upQ (n.1 + q.1, n.2.1 + q.2.1, n.2.2.1 + q.2.2.1, n.2.2.2 + q.2.2.2), b, h, m) := by
  have := loopO_steps (f := fun (d : Int × List Int × List UInt8 × Int × Int) ↦ (LQ.turn.l2 (up q.1, up q.2.1, up q.2.2.1, up q.2.2.2, z) d.fst d.snd.fst d.snd.snd.fst d.snd.snd.snd.fst d.snd.snd.snd.snd).run)
    (fun k => ((k : Int), [bif Nat.blt 0 k then up (n.1 + q.1) else up n.1, bif Nat.blt 1 k then up (n.2.1 + q.2.1) else up n.2.1, bif Nat.blt 2 k then up (n.2.2.1 + q.2.2.1) else up n.2.2.1, bif Nat.blt 3 k then up (n.2.2.2 + q.2.2.2) else up n.2.2.2], b, h, m))
    (r := (upQ (n.1 + q.1, n.2.1 + q.2.1, n.2.2.1 + q.2.2.1, n.2.2.2 + q.2.2.2), b, h, m)) 4 ?_ ?_
  · exact this
  · intro k hk
    have aux : ∀ (x : List Int), (LQ.turn.l2 (up q.1, up q.2.1, up q.2.2.1, up q.2.2.2, z) (k : Int) x b h m).run = some (.inl (((k + 1 : Nat) : Int), x.set k (IntKind.u32.wrap (x.getD k 0 + ([up q.1, up q.2.1, up q.2.2.1, up q.2.2.2].getD k 0))), b, h, m)) := by
      intro x
      unfold LQ.turn.l2
      rw [Tr.run_br, decide_eq_true (by omega), cond_true, Tr.run_need _ (by omega), Tr.run_need _ (by omega), Tr.run_need _ (by omega), Tr.run_ret, w64_id (by omega), Int.toNat_natCast]
      rfl
    refine (aux _).trans ?_
    match k, hk with
    | 0, _ => rw [← up_add]; rfl
    | 1, _ => rw [← up_add n.2.1]; rfl
    | 2, _ => rw [← up_add n.2.2.1]; rfl
    | 3, _ => rw [← up_add n.2.2.2]; rfl
  · show (LQ.turn.l2 _ ((4 : Nat) : Int) _ b h m).run = _
    unfold LQ.turn.l2
    rw [Tr.run_br, decide_eq_false (by omega), cond_false, Tr.run_ret]
    rfl

theorem rounds_eq (b : List UInt8) (st : List Int) (h m : Int) (n : Q4) :
    loopO (fun (d : Int × Int × Int × Int × Int × (List Int × List UInt8 × Int × Int) × List Int × List (List Int)) ↦ (LQ.turn.l1 (Kl.map up) d.fst d.snd.fst d.snd.snd.fst d.snd.snd.snd.fst d.snd.snd.snd.snd.fst d.snd.snd.snd.snd.snd.fst d.snd.snd.snd.snd.snd.snd.fst d.snd.snd.snd.snd.snd.snd.snd).run) (up n.1, up n.2.1, up n.2.2.1, up n.2.2.2, (0 : Int), (st, b, h, m), Xs b, byL)
      = some (up (rnd b n 64).1, up (rnd b n 64).2.1, up (rnd b n 64).2.2.1, up (rnd b n 64).2.2.2, st, b, h, m) := by
  exact loopO_steps (f := fun (d : Int × Int × Int × Int × Int × (List Int × List UInt8 × Int × Int) × List Int × List (List Int)) ↦ (LQ.turn.l1 (Kl.map up) d.fst d.snd.fst d.snd.snd.fst d.snd.snd.snd.fst d.snd.snd.snd.snd.fst d.snd.snd.snd.snd.snd.fst d.snd.snd.snd.snd.snd.snd.fst d.snd.snd.snd.snd.snd.snd.snd).run)
    (fun k => (up (rnd b n k).1, up (rnd b n k).2.1, up (rnd b n k).2.2.1, up (rnd b n k).2.2.2, (k : Int), (st, b, h, m), Xs b, byL)) (r := (up (rnd b n 64).1, up (rnd b n 64).2.1, up (rnd b n 64).2.2.1, up (rnd b n 64).2.2.2, st, b, h, m)) 64 (fun k hk => turn_step b st h m k hk _) (by
      show (LQ.turn.l1 (Kl.map up) _ _ _ _ ((64 : Nat) : Int) (st, b, h, m) (Xs b) byL).run = _
      unfold LQ.turn.l1
      rw [Tr.run_br, decide_eq_false (by omega), cond_false, Tr.run_ret])

theorem turn_eq (b : List UInt8) (hb : b.length = 64) (h m : Int) (n : Q4) : LQ.turn (upQ n) b h m = some (upQ (blk b n), b, 0, m) := by
  unfold LQ.turn LQ.turn.t
  rw [Tr.run_bind]
  have e := words_eq (upQ n) b hb h m
  rw [show List.replicate 16 (0 : Int) = [(0 : Int), (0 : Int), (0 : Int), (0 : Int), (0 : Int), (0 : Int), (0 : Int), (0 : Int), (0 : Int), (0 : Int), (0 : Int), (0 : Int), (0 : Int), (0 : Int), (0 : Int), (0 : Int)] from rfl] at e
  rw [e, Option.bind_some, Tr.run_need _ (by omega), Tr.run_need _ (by omega), Tr.run_need _ (by omega), Tr.run_need _ (by omega), Tr.run_bind, sines_eq, Option.bind_some, Tr.run_bind]
  refine (congrArg (fun o => Option.bind o _) (rounds_eq b (upQ n) h m n)).trans ?_
  rw [Option.bind_some, Tr.run_bind]
  refine (congrArg (fun o => Option.bind o _) (l2_steps (rnd b n 64) n (upQ n, b, h, m) b h m)).trans ?_
  rfl
end Go.Proofs.Ytipoadjhenjpiaa.Dg
end

section
set_option linter.unusedVariables false
set_option linter.unusedSimpArgs false
namespace Go.LM
def mdInit : Q4 := (0x67452301, 0xEFCDAB89, 0x98BADCFE, 0x10325476)
/-- The first k blocks taken in. -/
def ab (M : List UInt8) : Nat → Q4
  | 0 => mdInit
  | k + 1 => blk ((M.drop (64 * k)).take 64) (ab M k)
theorem ab_succ (M : List UInt8) (k : Nat) : ab M (k + 1) = blk ((M.drop (64 * k)).take 64) (ab M k) := rfl
theorem ab_append (M c : List UInt8) : ∀ k, 64 * k ≤ M.length → ab (M ++ c) k = ab M k
  | 0, _ => rfl
  | k + 1, h => by
    unfold ab
    rw [ab_append M c k (by omega), List.drop_append_of_le_length (by omega), List.take_append_of_le_length (by rw [List.length_drop]; omega)]
def mdS (M : List UInt8) : List Int := upQ (ab M (M.length / 64))
def hv (M : List UInt8) : Int := ((M.length % 64 : Nat) : Int)
def Rp (M buf : List UInt8) : Prop := buf.length = 64 ∧ buf.take (M.length % 64) = M.drop (64 * (M.length / 64))
end Go.LM
namespace Go.Proofs.Ytipoadjhenjpiaa.Dg
open Go.LM

theorem take_loop : ∀ (N : Nat) (t M buf : List UInt8) (m : Int), t.length ≤ N → Rp M buf → ∃ buf', Rp (M ++ t) buf' ∧
    loopO (fun (d : List UInt8 × List Int × List UInt8 × Int × Int) ↦ (LQ.take.l0 d.fst d.snd.fst d.snd.snd.fst d.snd.snd.snd.fst d.snd.snd.snd.snd).run) (t, mdS M, buf, hv M, m) = some (mdS (M ++ t), buf', hv (M ++ t), m) := by
  intro N
  induction N with
  | zero =>
    intro t M buf m ht hr
    obtain rfl : t = [] := List.eq_nil_of_length_eq_zero (by omega)
    refine ⟨buf, by rwa [List.append_nil], ?_⟩
    rw [loopO_eq, List.append_nil]
    rfl
  | succ N ih =>
    intro t M buf m ht hr
    by_cases h0 : t = []
    · subst h0
      refine ⟨buf, by rwa [List.append_nil], ?_⟩
      rw [loopO_eq, List.append_nil]
      rfl
    have hl : 0 < t.length := by cases t with | nil => exact absurd rfl h0 | cons => simp
    obtain ⟨hb, hk⟩ := hr
    have hlt : M.length % 64 < 64 := Nat.mod_lt _ (by decide)
    let k := min t.length (64 - M.length % 64)
    have hk' : k = min t.length (64 - M.length % 64) := rfl
    have ek : min t.length ((64 : Int) - hv M).toNat = k := by unfold hv; rw [show ((64 : Int) - ((M.length % 64 : Nat) : Int)).toNat = 64 - M.length % 64 by omega]
    let nb := buf.take (M.length % 64) ++ (t.take (64 - M.length % 64) ++ buf.drop (M.length % 64 + k))
    have hnb : nb.length = 64 := by simp only [nb, List.length_append, List.length_take, List.length_drop]; omega
    have htk : t.take (64 - M.length % 64) = t.take k := by
      by_cases hc : t.length ≤ 64 - M.length % 64
      · rw [List.take_of_length_le hc, List.take_of_length_le (by omega)]
      · rw [show k = 64 - M.length % 64 by omega]
    have key : ∃ nb', Rp (M ++ t.take k) nb' ∧ (LQ.take.l0 t (mdS M) buf (hv M) m).run = some (.inl (t.drop k, mdS (M ++ t.take k), nb', hv (M ++ t.take k), m)) := by
      refine ⟨nb, ?_, ?_⟩
      · refine ⟨hnb, ?_⟩
        rw [List.length_append, List.length_take]
        by_cases hc : M.length % 64 + k = 64
        · rw [show (M.length + min k t.length) % 64 = 0 by omega, List.take_zero, List.drop_of_length_le (by rw [List.length_append, List.length_take]; omega)]
        · have e1 : (M.length + min k t.length) % 64 = M.length % 64 + k := by omega
          have e2 : (M.length + min k t.length) / 64 = M.length / 64 := by omega
          rw [e1, e2, List.drop_append_of_le_length (by omega), ← hk]
          show (buf.take (M.length % 64) ++ (t.take (64 - M.length % 64) ++ buf.drop (M.length % 64 + k))).take _ = _
          rw [htk, ← List.append_assoc, List.take_left' (by rw [List.length_append, List.length_take, List.length_take]; omega)]
      · unfold LQ.take.l0
        have hne : (!t == []) = true := by cases t with | nil => exact absurd rfl h0 | cons => rfl
        rw [Tr.run_br, hne, cond_true, ek, Tr.run_need _ (by unfold hv; omega), Tr.run_need _ (by simp only [Int.ofNat_eq_natCast]; omega), Tr.run_bind]
        have e64 : w64 (hv M + Int.ofNat k) = ((M.length % 64 + k : Nat) : Int) := by unfold hv; rw [w64_id (by simp only [Int.ofNat_eq_natCast]; omega)]; rfl
        have enb : List.take (hv M).toNat buf ++ (List.take ((64 : Int) - hv M).toNat t ++ List.drop ((hv M).toNat + k) buf) = nb := by
          unfold hv; rw [Int.toNat_natCast, show ((64 : Int) - ((M.length % 64 : Nat) : Int)).toNat = 64 - M.length % 64 by omega]
        have er : List.take (Int.ofNat t.length - Int.ofNat k).toNat (List.drop (Int.ofNat k).toNat t) = t.drop k := by
          rw [show (Int.ofNat k).toNat = k from rfl]
          exact List.take_of_length_le (by rw [List.length_drop]; simp only [Int.ofNat_eq_natCast]; omega)
        rw [e64, enb, er]
        by_cases hc : M.length % 64 + k = 64
        · have e3 : (M ++ t.take k).length = 64 * (M.length / 64 + 1) := by rw [List.length_append, List.length_take]; omega
          have e4 : mdS (M ++ t.take k) = upQ (blk nb (ab M (M.length / 64))) := by
            unfold mdS
            rw [e3, show 64 * (M.length / 64 + 1) / 64 = M.length / 64 + 1 by omega]
            rw [ab_succ, ab_append _ _ _ (by omega), List.drop_append_of_le_length (by omega), ← hk, ← htk]
            rw [List.take_of_length_le (by rw [List.length_append, List.length_take, List.length_take]; omega)]
            show _ = upQ (blk (buf.take (M.length % 64) ++ (t.take (64 - M.length % 64) ++ buf.drop (M.length % 64 + k))) _)
            rw [List.drop_of_length_le (l := buf) (by omega), List.append_nil]
          have e5 : hv (M ++ t.take k) = 0 := by unfold hv; rw [e3]; omega
          rw [show (((M.length % 64 + k : Nat) : Int) == 64) = true by rw [hc]; rfl, Tr.run_br, cond_true, Tr.run_bind]
          have ht := turn_eq nb hnb ((M.length % 64 + k : Nat) : Int) m (ab M (M.length / 64))
          unfold mdS at *
          rw [ht, Option.bind_some, Tr.run_ret, Option.bind_some, Tr.run_ret, e4, e5]
        · have hkt : k = t.length := by omega
          have e3 : (M ++ t.take k).length = M.length + k := by rw [List.length_append, List.length_take]; omega
          have e4 : mdS (M ++ t.take k) = mdS M := by
            unfold mdS
            rw [e3, show (M.length + k) / 64 = M.length / 64 by omega, ab_append _ _ _ (by omega)]
          have e5 : hv (M ++ t.take k) = ((M.length % 64 + k : Nat) : Int) := by unfold hv; rw [e3]; omega
          rw [show (((M.length % 64 + k : Nat) : Int) == 64) = false by simp; omega, Tr.run_br, cond_false, Tr.run_ret, Option.bind_some, Tr.run_ret, e4, e5]
    obtain ⟨nb', hr', hs⟩ := key
    obtain ⟨buf', h1, h2⟩ := ih (t.drop k) (M ++ t.take k) nb' m (by rw [List.length_drop]; omega) hr'
    rw [List.append_assoc, List.take_append_drop] at h1 h2
    refine ⟨buf', h1, ?_⟩
    rw [loopO_eq, hs]
    exact h2

theorem take_eq (t M buf : List UInt8) (m : Int) (hr : Rp M buf) : ∃ buf', Rp (M ++ t) buf' ∧ LQ.take t (mdS M) buf (hv M) m = some (mdS (M ++ t), buf', hv (M ++ t), m) := by
  obtain ⟨buf', h1, h2⟩ := take_loop t.length t M buf m (Nat.le_refl _) hr
  refine ⟨buf', h1, ?_⟩
  unfold LQ.take LQ.take.t
  rw [Tr.run_bind]
  refine (congrArg (fun o => Option.bind o _) h2).trans ?_
  rfl
end Go.Proofs.Ytipoadjhenjpiaa.Dg
end

section
set_option linter.unusedVariables false
set_option linter.unusedSimpArgs false
namespace Go.LM
def zN (M : List UInt8) : Nat := (119 - M.length % 64) % 64
def padM (M : List UInt8) : List UInt8 := M ++ [128] ++ List.replicate (zN M) 0 ++ leB (8 * M.length) 8
def outQ (n : Q4) : List UInt8 := leB n.1.toNat 4 ++ leB n.2.1.toNat 4 ++ leB n.2.2.1.toNat 4 ++ leB n.2.2.2.toNat 4
/-- MD5. -/
def md5 (M : List UInt8) : List UInt8 := outQ (ab (padM M) ((padM M).length / 64))
theorem outQ_len (n : Q4) : (outQ n).length = 16 := by simp [outQ, leB_len]
end Go.LM
namespace Go.Proofs.Ytipoadjhenjpiaa.Dg
open Go.LM

theorem le4 (x : W32) : LQ.bytes_Le (w64 (up x)) 4 = some (leB x.toNat 4, 0) := by
  have := x.isLt
  rw [w64_id (by unfold up; omega)]
  exact bytes_Le_eq x.toNat 4 (by decide) (by decide) (by omega) (fun _ => by omega)
theorem rle4 (x : W32) : LQ.r2_Le (w64 (up x)) 4 = some (leB x.toNat 4, 0) := by
  have := x.isLt
  rw [w64_id (by unfold up; omega)]
  exact Le_eq x.toNat 4 (by decide) (by decide) (by omega) (fun _ => by omega)

theorem zeros_loop (w : List Int × List UInt8 × Int × Int) (M : List UInt8) (m : Int) : ∀ (j k : Nat) (buf : List UInt8), k + j = zN M → Rp (M ++ [128] ++ List.replicate k 0) buf → ∃ buf', Rp (M ++ [128] ++ List.replicate (zN M) 0) buf' ∧
    loopO (fun (d : (List Int × List UInt8 × Int × Int) × List Int × List UInt8 × Int × Int) ↦ (LQ.Value.l0 d.fst d.snd.fst d.snd.snd.fst d.snd.snd.snd.fst d.snd.snd.snd.snd).run) (w, mdS (M ++ [128] ++ List.replicate k 0), buf, hv (M ++ [128] ++ List.replicate k 0), m)
      = some (w, mdS (M ++ [128] ++ List.replicate (zN M) 0), buf', 56, m) := by
  intro j
  induction j with
  | zero =>
    intro k buf hk hr
    obtain rfl : k = zN M := by omega
    refine ⟨buf, hr, ?_⟩
    have e : hv (M ++ [128] ++ List.replicate (zN M) 0) = 56 := by
      unfold hv; simp only [List.length_append, List.length_cons, List.length_nil, List.length_replicate]
      have : zN M = (119 - M.length % 64) % 64 := rfl
      omega
    rw [loopO_eq]
    simp only [LQ.Value.l0, e]
    rw [Tr.run_br, show ((56 : Int) != 56) = false from rfl, cond_false, Tr.run_ret]
  | succ j ih =>
    intro k buf hk hr
    obtain ⟨b1, h1, h2⟩ := take_eq [0] _ buf m hr
    have e : ((hv (M ++ [128] ++ List.replicate k 0)) != 56) = true := by
      have : zN M = (119 - M.length % 64) % 64 := rfl
      have : hv (M ++ [128] ++ List.replicate k 0) ≠ 56 := by
        unfold hv; simp only [List.length_append, List.length_cons, List.length_nil, List.length_replicate]
        omega
      simpa using this
    have e2 : M ++ [128] ++ List.replicate k 0 ++ [0] = M ++ [128] ++ List.replicate (k + 1) (0 : UInt8) := by rw [List.append_assoc _ (List.replicate k 0), ← List.replicate_succ']
    rw [e2] at h1 h2
    obtain ⟨b2, h3, h4⟩ := ih (k + 1) b1 (by omega) h1
    refine ⟨b2, h3, ?_⟩
    rw [loopO_eq]
    simp only [LQ.Value.l0]
    rw [Tr.run_br, e, cond_true, Tr.run_bind, h2, Option.bind_some, Tr.run_ret]
    exact h4

theorem out_loop (n : Q4) (z : List UInt8 × Int × Int) (w1 : List Int) (w2 : List UInt8) (w3 w4 : Int) :
    loopO (fun (d : List UInt8 × Int × List Int × List UInt8 × Int × Int) ↦ (LQ.Value.l1 (upQ n, z) d.fst d.snd.fst d.snd.snd.fst d.snd.snd.snd.fst d.snd.snd.snd.snd.fst d.snd.snd.snd.snd.snd).run) ([], (0 : Int), w1, w2, w3, w4) = some (outQ n, w1, w2, w3, w4) := by
  have aux : ∀ (k : Nat) (hk : k < 4) (x : W32) (o : List UInt8), o.length ≤ 100 → (upQ n).getD k 0 = up x → (LQ.Value.l1 (upQ n, z) o (k : Int) w1 w2 w3 w4).run = some (.inl (o ++ leB x.toNat 4, ((k + 1 : Nat) : Int), w1, w2, w3, w4)) := by
    intro k hk x o ho hx
    unfold LQ.Value.l1
    rw [Tr.run_br, decide_eq_true (by omega), cond_true, Tr.run_need _ (by omega), Tr.run_bind, Int.toNat_natCast]
    simp only []
    rw [hx, le4, Option.bind_some, Tr.run_need _ (by rw [leB_len]; omega), Tr.run_ret, w64_id (by omega)]
    rfl
  refine (loopO_next (aux 0 (by omega) n.1 [] (by simp) rfl)).trans ?_
  refine (loopO_next (aux 1 (by omega) n.2.1 _ (by simp [leB_len]) rfl)).trans ?_
  refine (loopO_next (aux 2 (by omega) n.2.2.1 _ (by simp [leB_len]) rfl)).trans ?_
  refine (loopO_next (aux 3 (by omega) n.2.2.2 _ (by simp [leB_len]) rfl)).trans ?_
  refine loopO_done ?_
  show (LQ.Value.l1 (upQ n, z) _ ((4 : Nat) : Int) w1 w2 w3 w4).run = _
  unfold LQ.Value.l1
  rw [Tr.run_br, decide_eq_false (by omega), cond_false, Tr.run_ret]
  simp [outQ]

theorem Value_eq (M buf : List UInt8) (hr : Rp M buf) (hM : M.length < 576460752303423488) : LQ.Value (mdS M) buf (hv M) (M.length : Int) = some (md5 M, mdS M, buf, hv M, (M.length : Int)) := by
  unfold LQ.Value LQ.Value.t
  rw [Tr.run_br, cond_false, Tr.run_bind, w64_id (by omega), show (8 : Int) * (M.length : Int) = ((8 * M.length : Nat) : Int) by omega]
  rw [show LQ.bytes_Le ((8 * M.length : Nat) : Int) 8 = some (leB (8 * M.length) 8, 0) from bytes_Le_eq (8 * M.length) 8 (by decide) (by decide) (by omega) (fun h => absurd h (by decide)), Option.bind_some, Tr.run_bind]
  obtain ⟨b1, h1, h2⟩ := take_eq [128] M buf (M.length : Int) hr
  rw [h2, Option.bind_some, Tr.run_bind]
  obtain ⟨b2, h3, h4⟩ := zeros_loop (mdS M, buf, hv M, (M.length : Int)) M (M.length : Int) (zN M) 0 b1 (by omega) (by simpa using h1)
  rw [show M ++ [128] ++ List.replicate 0 (0 : UInt8) = M ++ [128] by simp] at h4
  refine (congrArg (fun o => Option.bind o _) h4).trans ?_
  rw [Option.bind_some, Tr.run_bind]
  obtain ⟨b3, h5, h6⟩ := take_eq (leB (8 * M.length) 8) (M ++ [128] ++ List.replicate (zN M) 0) b2 (M.length : Int) h3
  have e : hv (M ++ [128] ++ List.replicate (zN M) 0) = 56 := by
    unfold hv; simp only [List.length_append, List.length_cons, List.length_nil, List.length_replicate]
    have : zN M = (119 - M.length % 64) % 64 := rfl
    omega
  rw [e] at h6
  refine (congrArg (fun o => Option.bind o _) h6).trans ?_
  rw [Option.bind_some, Tr.run_bind]
  refine (congrArg (fun o => Option.bind o _) (out_loop _ _ _ _ _ _)).trans ?_
  rfl

theorem New_eq : LQ.New = some (mdS [], List.replicate 64 0, hv [], 0) := by
  unfold LQ.New LQ.New.t; rw [Tr.run_ret]; rfl
theorem Rp_nil : Rp [] (List.replicate 64 0) := ⟨by simp, rfl⟩

theorem Add_eq (t M buf : List UInt8) (hr : Rp M buf) (h : M.length + t.length < 576460752303423488) : ∃ buf', Rp (M ++ t) buf' ∧ LQ.Add t (mdS M) buf (hv M) (M.length : Int) = some (mdS (M ++ t), buf', hv (M ++ t), ((M ++ t).length : Int)) := by
  obtain ⟨b1, h1, h2⟩ := take_eq t M buf ((M ++ t).length : Int) hr
  refine ⟨b1, h1, ?_⟩
  unfold LQ.Add LQ.Add.t
  rw [Tr.run_bind, Tr.run_br, cond_true, Tr.run_bind, w64_id (by simp only [Int.ofNat_eq_natCast]; omega), show (M.length : Int) + Int.ofNat t.length = ((M ++ t).length : Int) by simp, h2]
  rfl

theorem Of_eq (s : List UInt8) (h : s.length < 576460752303423488) : LQ.Of s = some (md5 s) := by
  obtain ⟨b1, h1, h2⟩ := Add_eq s [] _ Rp_nil (by simpa using h)
  rw [List.nil_append] at h1 h2
  unfold LQ.Of LQ.Of.t
  rw [Tr.run_bind, New_eq, Option.bind_some, Tr.run_bind]
  refine (congrArg (fun o => Option.bind o _) h2).trans ?_
  rw [Option.bind_some, Tr.run_bind]
  refine (congrArg (fun o => Option.bind o _) (Value_eq s b1 h1 h)).trans ?_
  rfl
end Go.Proofs.Ytipoadjhenjpiaa.Dg
end

section
set_option linter.unusedVariables false
set_option linter.unusedSimpArgs false
namespace Go.LM
def hxL : List UInt8 := [48, 49, 50, 51, 52, 53, 54, 55, 56, 57, 97, 98, 99, 100, 101, 102]
def hx2 (b : UInt8) : List UInt8 := [hxL.getD (b.toNat / 16) 0, hxL.getD (b.toNat % 16) 0]
def hexL (d : List UInt8) : List UInt8 := d.flatMap hx2
theorem hexL_len : ∀ d : List UInt8, (hexL d).length = 2 * d.length
  | [] => rfl
  | b :: d => by unfold hexL; rw [List.flatMap_cons, List.length_append]; have := hexL_len d; unfold hexL at this; rw [this]; simp [hx2]; omega
theorem u8_all {p : UInt8 → Prop} (h : ∀ n < 256, p (UInt8.ofNat n)) (b : UInt8) : p b := by
  have := h b.toNat b.toNat_lt
  rwa [UInt8.ofNat_toNat] at this
theorem hexL_take (d : List UInt8) (k : Nat) (h : k < d.length) : hexL (d.take (k + 1)) = hexL (d.take k) ++ hx2 (d.getD k 0) := by
  rw [List.take_succ_eq_append_getElem h, getD_lt _ _ h]; unfold hexL; rw [List.flatMap_append]; simp
end Go.LM
namespace Go.Proofs.Ytipoadjhenjpiaa.Dg
open Go.LM

theorem pad_eq (s : List UInt8) (h : s.length < 576460752303423488) : w64 ((1 : Int) + (w64 ((119 : Int) - (Int.ofNat s.length).tmod (64 : Int))).tmod (64 : Int)) = ((1 + zN s : Nat) : Int) := by
  simp only [Int.ofNat_eq_natCast]
  rw [Int.tmod_eq_emod_of_nonneg (a := (s.length : Int)) (by omega), w64_id (x := (119 : Int) - (s.length : Int) % 64) (by omega), Int.tmod_eq_emod_of_nonneg (by omega), w64_id (by omega)]
  unfold zN; omega

theorem blocks_loop (s : List UInt8) (r0 : List UInt8 × Int) (T : List UInt8) (hT : (s.append ((List.replicate (w64 ((1 : Int) + (w64 ((119 : Int) - (Int.ofNat s.length).tmod (64 : Int))).tmod (64 : Int))).toNat (0 : UInt8)).set (0 : Nat) (128 : UInt8))).append r0.fst = T) (hl : T.length < 4611686018427387904) :
    loopO (fun (d : Int × List Int) ↦ (LQ.r4_Of.l0 s r0 d.fst d.snd).run) ((0 : Int), upQ mdInit) = some (upQ (ab T (T.length / 64))) := by
  have := loopO_steps (f := fun (d : Int × List Int) ↦ (LQ.r4_Of.l0 s r0 d.fst d.snd).run) (fun k => (((64 * k : Nat) : Int), upQ (ab T k))) (r := upQ (ab T (T.length / 64))) (T.length / 64) ?_ ?_
  · exact this
  · intro k hk
    show (LQ.r4_Of.l0 s r0 ((64 * k : Nat) : Int) (upQ (ab T k))).run = _
    unfold LQ.r4_Of.l0
    rw [hT, w64_id (by omega), Tr.run_br, decide_eq_true (by simp only [Int.ofNat_eq_natCast]; omega), cond_true, Tr.run_need _ (by simp only [Int.ofNat_eq_natCast]; omega), Tr.run_bind]
    rw [show (((64 * k : Nat) : Int) + 64 - ((64 * k : Nat) : Int)).toNat = 64 by omega, Int.toNat_natCast, block_eq _ (by rw [List.length_take, List.length_drop]; omega), Option.bind_some, Tr.run_ret, ← ab_succ]
    rw [show ((64 * k : Nat) : Int) + 64 = ((64 * (k + 1) : Nat) : Int) by omega]
  · show (LQ.r4_Of.l0 s r0 ((64 * (T.length / 64) : Nat) : Int) (upQ (ab T (T.length / 64)))).run = _
    unfold LQ.r4_Of.l0
    rw [hT, w64_id (by omega), Tr.run_br, decide_eq_false (by simp only [Int.ofNat_eq_natCast]; omega), cond_false, Tr.run_ret]

theorem rout_loop (n : Q4) :
    loopO (fun (d : List UInt8 × Int × List Int) ↦ (LQ.r4_Of.l1 d.fst d.snd.fst d.snd.snd).run) ([], (0 : Int), upQ n) = some (outQ n) := by
  have aux : ∀ (k : Nat) (hk : k < 4) (x : W32) (o : List UInt8), o.length ≤ 100 → (upQ n).getD k 0 = up x → (LQ.r4_Of.l1 o (k : Int) (upQ n)).run = some (.inl (o ++ leB x.toNat 4, ((k + 1 : Nat) : Int), upQ n)) := by
    intro k hk x o ho hx
    unfold LQ.r4_Of.l1
    rw [Tr.run_br, decide_eq_true (by omega), cond_true, Tr.run_need _ (by omega), Tr.run_bind, Int.toNat_natCast]
    rw [hx, rle4, Option.bind_some, Tr.run_need _ (by rw [leB_len]; omega), Tr.run_ret, w64_id (by omega)]
    rfl
  refine (loopO_next (aux 0 (by omega) n.1 [] (by simp) rfl)).trans ?_
  refine (loopO_next (aux 1 (by omega) n.2.1 _ (by simp [leB_len]) rfl)).trans ?_
  refine (loopO_next (aux 2 (by omega) n.2.2.1 _ (by simp [leB_len]) rfl)).trans ?_
  refine (loopO_next (aux 3 (by omega) n.2.2.2 _ (by simp [leB_len]) rfl)).trans ?_
  refine loopO_done ?_
  show (LQ.r4_Of.l1 _ ((4 : Nat) : Int) (upQ n)).run = _
  unfold LQ.r4_Of.l1
  rw [Tr.run_br, decide_eq_false (by omega), cond_false, Tr.run_ret]
  simp [outQ]

theorem rOf_eq (s : List UInt8) (h : s.length < 576460752303423488) : LQ.r4_Of s = some (md5 s) := by
  have hz : zN s < 64 := Nat.mod_lt _ (by decide)
  have hT : (s.append ((List.replicate (w64 ((1 : Int) + (w64 ((119 : Int) - (Int.ofNat s.length).tmod (64 : Int))).tmod (64 : Int))).toNat (0 : UInt8)).set (0 : Nat) (128 : UInt8))).append (leB (8 * s.length) 8, (0 : Int)).fst = padM s := by
    rw [pad_eq s h, Int.toNat_natCast, Nat.add_comm 1, List.replicate_succ]
    show (s ++ _) ++ _ = _
    unfold padM
    simp
  have hpl : (padM s).length = s.length + 1 + zN s + 8 := by unfold padM; simp [leB_len]; omega
  unfold LQ.r4_Of LQ.r4_Of.t
  rw [Tr.run_bind, show Int.ofNat s.length * (8 : Int) = ((8 * s.length : Nat) : Int) by simp only [Int.ofNat_eq_natCast]; omega, w64_id (by omega)]
  rw [show LQ.r2_Le ((8 * s.length : Nat) : Int) 8 = some (leB (8 * s.length) 8, 0) from Le_eq (8 * s.length) 8 (by decide) (by decide) (by omega) (fun h => absurd h (by decide)), Option.bind_some]
  rw [Tr.run_need _ (by rw [pad_eq s h]; omega), Tr.run_need _ (by rw [pad_eq s h]; simp; omega), Tr.run_need _ (by rw [pad_eq s h]; simp; omega), Tr.run_need _ (by
    rw [pad_eq s h]
    simp only [List.append_eq, List.length_append, List.length_set, List.length_replicate, leB_len, Int.toNat_natCast]; omega), Tr.run_bind]
  refine (congrArg (fun o => Option.bind o _) (blocks_loop s (leB (8 * s.length) 8, 0) (padM s) hT (by omega))).trans ?_
  rw [Option.bind_some, Tr.run_bind]
  refine (congrArg (fun o => Option.bind o _) (rout_loop _)).trans ?_
  rfl

/-! ### digits -/
theorem hi1 : ∀ b : UInt8, Int.ofNat (UInt8.ofNat ((Int.ofNat b.toNat).tdiv (16 : Int) % (256 : Int)).toNat).toNat = ((b.toNat / 16 : Nat) : Int) := u8_all (by decide +kernel)
theorem lo1 : ∀ b : UInt8, Int.ofNat (UInt8.ofNat ((Int.ofNat b.toNat).tmod (16 : Int) % (256 : Int)).toNat).toNat = ((b.toNat % 16 : Nat) : Int) := u8_all (by decide +kernel)
theorem hi2 : ∀ b : UInt8, Int.ofNat (UInt8.ofNat (Int.ofNat b.toNat / (16 : Int) % (256 : Int)).toNat).toNat = ((b.toNat / 16 : Nat) : Int) := u8_all (by decide +kernel)
theorem lo2 : ∀ b : UInt8, Int.ofNat (UInt8.ofNat (bitsI Go.BinOp.and Go.IntKind.u8 (Int.ofNat b.toNat) (15 : Int) % (256 : Int)).toNat).toNat = ((b.toNat % 16 : Nat) : Int) := u8_all (by decide +kernel)

theorem set_two {α : Type} (P : List α) (z x y : α) (m k : Nat) (h : P.length = k) : ((P ++ List.replicate (m + 2) z).set k x).set (k + 1) y = (P ++ [x, y]) ++ List.replicate m z := by
  subst h
  rw [List.set_append_right _ _ (Nat.le_refl _), Nat.sub_self, List.replicate_succ, List.set_cons_zero, List.set_append_right _ _ (by omega)]
  rw [show P.length + 1 - P.length = 1 by omega, List.replicate_succ, List.set_cons_succ, List.set_cons_zero]
  simp

theorem Hex_eq (s : List UInt8) (h : s.length < 576460752303423488) : LQ.Hex s = some (hexL (md5 s)) := by
  unfold LQ.Hex LQ.Hex.t
  rw [Tr.run_bind, Of_eq s h, Option.bind_some]
  have hl : (md5 s).length = 16 := outQ_len _
  generalize md5 s = d at hl
  have e : w64 ((2 : Int) * Int.ofNat d.length) = 32 := by rw [hl]; rfl
  rw [e, Tr.run_need _ (by decide), Tr.run_bind]
  have := loopO_steps (f := fun (x : Int × List UInt8) ↦ (LQ.Hex.l0 d x.fst x.snd).run) (fun k => ((k : Int), hexL (d.take k) ++ List.replicate (32 - 2 * k) (0 : UInt8))) (r := hexL d) 16 ?_ ?_
  · refine (congrArg (fun o => Option.bind o _) this).trans ?_
    rfl
  · intro k hk
    show (LQ.Hex.l0 d (k : Int) _).run = _
    unfold LQ.Hex.l0
    have hlen : (hexL (d.take k)).length = 2 * k := by rw [hexL_len, List.length_take]; omega
    have hb := (d.getD k 0).toNat_lt
    rw [Tr.run_br, decide_eq_true (by rw [hl, Int.ofNat_eq_natCast]; omega), cond_true, Tr.run_need _ (by rw [hl, Int.ofNat_eq_natCast]; omega), Int.toNat_natCast, hi1, lo1, Tr.run_need _ (by omega), Tr.run_need _ (by rw [hl, Int.ofNat_eq_natCast]; omega), Tr.run_need _ (by omega)]
    rw [w64_id (x := 2 * (k : Int)) (by omega), w64_id (x := 2 * (k : Int) + 1) (by omega), Tr.run_need _ (by simp only [List.length_append, hlen, List.length_replicate, Int.ofNat_eq_natCast]; omega), Tr.run_need _ (by simp only [List.length_set, List.length_append, hlen, List.length_replicate, Int.ofNat_eq_natCast]; omega), Tr.run_ret, w64_id (by omega)]
    rw [show (2 * (k : Int)).toNat = 2 * k by omega, show (2 * (k : Int) + 1).toNat = 2 * k + 1 by omega, Int.toNat_natCast, Int.toNat_natCast]
    rw [show 32 - 2 * k = (32 - 2 * (k + 1)) + 2 by omega, set_two _ _ _ _ _ _ hlen, hexL_take d k (by omega)]
    rfl
  · show (LQ.Hex.l0 d ((16 : Nat) : Int) _).run = _
    unfold LQ.Hex.l0
    rw [Tr.run_br, decide_eq_false (by rw [hl]; decide), cond_false, Tr.run_ret, List.take_of_length_le (by omega)]
    simp

theorem rHex_eq (s : List UInt8) (h : s.length < 576460752303423488) : LQ.r4_Hex s = some (hexL (md5 s)) := by
  unfold LQ.r4_Hex LQ.r4_Hex.t
  rw [Tr.run_bind, rOf_eq s h, Option.bind_some]
  have hl : (md5 s).length = 16 := outQ_len _
  generalize md5 s = d at hl
  rw [Tr.run_need _ (by decide), Tr.run_bind]
  have := loopO_steps (f := fun (x : Int × List UInt8) ↦ (LQ.r4_Hex.l0 d x.fst x.snd).run) (fun k => ((k : Int), hexL (d.take k))) (r := hexL d) 16 ?_ ?_
  · refine (congrArg (fun o => Option.bind o _) this).trans ?_
    rfl
  · intro k hk
    show (LQ.r4_Hex.l0 d (k : Int) _).run = _
    unfold LQ.r4_Hex.l0
    have hlen : (hexL (d.take k)).length = 2 * k := by rw [hexL_len, List.length_take]; omega
    have hb := (d.getD k 0).toNat_lt
    rw [Tr.run_br, decide_eq_true (by rw [hl, Int.ofNat_eq_natCast]; omega), cond_true, Tr.run_need _ (by rw [hl, Int.ofNat_eq_natCast]; omega), Int.toNat_natCast, hi2, lo2, Tr.run_need _ (by omega), Tr.run_need _ (by rw [hl, Int.ofNat_eq_natCast]; omega), Tr.run_need _ (by omega)]
    rw [Tr.run_need _ (by simp only [hlen, List.length_set, List.length_replicate]; omega), Tr.run_ret, w64_id (by omega)]
    rw [Int.toNat_natCast, Int.toNat_natCast, hexL_take d k (by omega)]
    rfl
  · show (LQ.r4_Hex.l0 d ((16 : Nat) : Int) _).run = _
    unfold LQ.r4_Hex.l0
    rw [Tr.run_br, decide_eq_false (by rw [hl]; decide), cond_false, Tr.run_ret, List.take_of_length_le (by omega)]

theorem awake_eq : LQ.awake = some true := by
  unfold LQ.awake LQ.awake.t
  rw [Hex_eq [] (by decide), Hex_eq _ (by decide), Hex_eq _ (by decide)]
  simp only [Tr.run_bind, Tr.run_br, Tr.run_ret, Option.bind_some]
  decide +kernel
end Go.Proofs.Ytipoadjhenjpiaa.Dg
end

