/- Sga: SgA SgB SgC SgD SgF SgE. -/
import Derived.Test.YtfblaicifdgfiaaSfD
import Derived.Test.YtfblaicifdgfiaaLmH
import Derived.Test.YtfblaicifdgfiaaSfE
section
set_option linter.unusedVariables false
set_option linter.unusedSimpArgs false
set_option maxRecDepth 10000
namespace Go.LM
open Go
theorem bindT {A B : Type} {o : Option A} {f : A → Option B} {a : A} (h : o = some a) : o.bind f = f a := by rw [h]; rfl
theorem p2_nat (k n : Nat) (h : k ≤ n) : p2 ((k : Nat) : Int) n = ((2 ^ k : Nat) : Int) := by
  unfold p2
  rw [Int.toNat_natCast, Nat.min_eq_left h]
def val8 (f : Nat → Bool) : Nat := (f 0).toNat * 128 + (f 1).toNat * 64 + (f 2).toNat * 32 + (f 3).toNat * 16 + (f 4).toNat * 8 + (f 5).toNat * 4 + (f 6).toNat * 2 + (f 7).toNat
def byteB (bs : List Bool) (j : Nat) : Nat := val8 fun i => bs.getD (8 * j + i) false
def pk (bs : List Bool) : List UInt8 := (List.range ((bs.length + 7) / 8)).map fun j => UInt8.ofNat (byteB bs j)
theorem pk_len (bs : List Bool) : (pk bs).length = (bs.length + 7) / 8 := by simp [pk]
theorem val8_lt (f : Nat → Bool) : val8 f < 256 := by
  unfold val8
  cases f 0 <;> cases f 1 <;> cases f 2 <;> cases f 3 <;> cases f 4 <;> cases f 5 <;> cases f 6 <;> cases f 7 <;> decide
theorem val8_congr {f g : Nat → Bool} (h : ∀ i, i < 8 → f i = g i) : val8 f = val8 g := by
  unfold val8
  rw [h 0 (by decide), h 1 (by decide), h 2 (by decide), h 3 (by decide), h 4 (by decide), h 5 (by decide), h 6 (by decide), h 7 (by decide)]
theorem val8_put {f g : Nat → Bool} {i : Nat} {b : Bool} (hi : i < 8) (h0 : ∀ k, i ≤ k → f k = false) (hg : ∀ k, g k = if k = i then b else f k) : val8 g = val8 f + b.toNat * 2 ^ (7 - i) ∧ val8 f % 2 ^ (8 - i) = 0 := by
  unfold val8
  rw [hg 0, hg 1, hg 2, hg 3, hg 4, hg 5, hg 6, hg 7]
  have : i = 0 ∨ i = 1 ∨ i = 2 ∨ i = 3 ∨ i = 4 ∨ i = 5 ∨ i = 6 ∨ i = 7 := by omega
  rcases this with rfl | rfl | rfl | rfl | rfl | rfl | rfl | rfl <;> simp [h0] <;> omega
theorem getD_snoc (bs : List Bool) (b : Bool) (k : Nat) : (bs ++ [b]).getD k false = if k = bs.length then b else bs.getD k false := by
  rw [List.getD_eq_getElem?_getD, List.getD_eq_getElem?_getD]
  by_cases h : k < bs.length
  · rw [List.getElem?_append_left h, if_neg (by omega)]
  · rw [List.getElem?_append_right (by omega)]
    by_cases h2 : k = bs.length
    · subst h2; simp
    · rw [if_neg h2, List.getElem?_eq_none (by simp; omega), List.getElem?_eq_none (by omega)]
theorem getD_out (bs : List Bool) (k : Nat) (h : bs.length ≤ k) : bs.getD k false = false := by
  rw [List.getD_eq_getElem?_getD, List.getElem?_eq_none h]; rfl
theorem byteB_snoc_ne (bs : List Bool) (b : Bool) (j : Nat) (h : j ≠ bs.length / 8) : byteB (bs ++ [b]) j = byteB bs j := by
  unfold byteB
  apply val8_congr
  intro i hi
  rw [getD_snoc, if_neg (by omega)]
theorem byteB_snoc (bs : List Bool) (b : Bool) : byteB (bs ++ [b]) (bs.length / 8) = byteB bs (bs.length / 8) + b.toNat * 2 ^ (7 - bs.length % 8) ∧ byteB bs (bs.length / 8) % 2 ^ (8 - bs.length % 8) = 0 := by
  unfold byteB
  refine val8_put (i := bs.length % 8) (by omega) (fun k hk => getD_out _ _ (by omega)) (fun k => ?_)
  rw [getD_snoc]
  by_cases h : k = bs.length % 8
  · rw [if_pos h, if_pos (by omega)]
  · rw [if_neg h, if_neg (by omega)]
theorem pk_snoc0 (bs : List Bool) (b : Bool) (h : bs.length % 8 = 0) : pk (bs ++ [b]) = pk bs ++ [UInt8.ofNat (b.toNat * 128)] := by
  have h1 : ((bs ++ [b]).length + 7) / 8 = (bs.length + 7) / 8 + 1 := by simp; omega
  have h2 : (bs.length + 7) / 8 = bs.length / 8 := by omega
  unfold pk
  rw [h1, List.range_succ, List.map_append, h2]
  congr 1
  · apply List.map_congr_left
    intro j hj
    rw [byteB_snoc_ne bs b j (by have := List.mem_range.1 hj; omega)]
  · have h3 := (byteB_snoc bs b).1
    rw [List.map_cons, List.map_nil, h3, h]
    have h0 : byteB bs (bs.length / 8) = 0 := (val8_congr (g := fun _ => false) fun i hi => getD_out _ _ (by omega)).trans rfl
    rw [h0, Nat.zero_add]
theorem pk_snoc1 (bs : List Bool) (b : Bool) (h : bs.length % 8 ≠ 0) : pk (bs ++ [b]) = (pk bs).set (bs.length / 8) (UInt8.ofNat (byteB bs (bs.length / 8) + b.toNat * 2 ^ (7 - bs.length % 8))) := by
  have h1 : ((bs ++ [b]).length + 7) / 8 = (bs.length + 7) / 8 := by simp; omega
  unfold pk
  rw [h1]
  apply List.ext_getElem
  · simp
  · intro j h2 h3
    rw [List.getElem_set]
    simp only [List.getElem_map, List.getElem_range]
    split
    · rename_i e
      rw [← e, (byteB_snoc bs b).1]
    · rename_i e
      rw [byteB_snoc_ne bs b j (fun e2 => e e2.symm)]
theorem pk_last (bs : List Bool) (h : bs.length % 8 ≠ 0) : (pk bs).getD (bs.length / 8) 0 = UInt8.ofNat (byteB bs (bs.length / 8)) := by
  unfold pk
  rw [List.getD_eq_getElem?_getD, List.getElem?_map, List.getElem?_range (by omega)]
  rfl
theorem or8 : ∀ (v : Fin 256) (i : Fin 8), v.1 % 2 ^ (8 - i.1) = 0 → bitsI Go.BinOp.or Go.IntKind.u8 (v.1 : Int) ((128 / 2 ^ i.1 : Nat) : Int) = ((v.1 + 2 ^ (7 - i.1) : Nat) : Int) := by decide +kernel
end Go.LM
namespace Go.Proofs.Ytfblaicifdgfiaa.Dg
open Go.LM
theorem bit_byte {v i : Nat} (hv : v < 256) (hi : i < 8) (h : v % 2 ^ (8 - i) = 0) :
    (bitsI Go.BinOp.or Go.IntKind.u8 (Int.ofNat (UInt8.ofNat v).toNat) (Int.ofNat (UInt8.ofNat ((128 : Int) / ((2 ^ i : Nat) : Int) % (256 : Int)).toNat).toNat) % (256 : Int)).toNat % 256 = (v + 2 ^ (7 - i)) % 256 := by
  have h3 : (128 : Int) / ((2 ^ i : Nat) : Int) = ((128 / 2 ^ i : Nat) : Int) := rfl
  have e1 : ((128 : Int) / ((2 ^ i : Nat) : Int) % (256 : Int)).toNat = 128 / 2 ^ i % 256 := by
    rw [h3]
    generalize 128 / 2 ^ i = q
    omega
  have e2 : 128 / 2 ^ i ≤ 128 := Nat.div_le_self _ _
  rw [e1, UInt8.toNat_ofNat', UInt8.toNat_ofNat']
  simp only [Int.ofNat_eq_natCast]
  have h4 := or8 ⟨v, hv⟩ ⟨i, hi⟩ h
  simp only at h4
  have h5 : 128 / 2 ^ i % 256 % 2 ^ 8 = 128 / 2 ^ i := by
    generalize 128 / 2 ^ i = q at e2
    omega
  rw [show v % 2 ^ 8 = v from Nat.mod_eq_of_lt (by omega), h5, h4]
  generalize v + 2 ^ (7 - i) = q
  omega
theorem u8_mod (m : Nat) : UInt8.ofNat (m % 256) = UInt8.ofNat m := by
  apply UInt8.toNat_inj.1
  rw [UInt8.toNat_ofNat', UInt8.toNat_ofNat']
  omega
theorem bit1_eq (bs : List Bool) (one : Bool) (h : bs.length ≤ 1099511627776) : LQ.bit1 one (bs.length : Int) (pk bs) = some (((bs.length + 1 : Nat) : Int), pk (bs ++ [one])) := by
  have hl := pk_len bs
  have hm : ((bs.length : Int)).tmod 8 = ((bs.length % 8 : Nat) : Int) := rfl
  have hon : ∀ row, LQ.on1 1 (bs.length : Int) row = some (((bs.length + 1 : Nat) : Int), row) := fun row => by
    unfold LQ.on1 LQ.on1.t
    rw [Tr.run_ret, w64_id (by omega)]; rfl
  have hat : ∀ row, LQ.at1 (bs.length : Int) row = some ((bs.length : Int), (bs.length : Int), row) := fun row => rfl
  unfold LQ.bit1 LQ.bit1.t
  rw [Tr.run_bind, hat, someBind]
  dsimp only
  rw [Tr.run_need _ ⟨rfl, rfl, trivial⟩, Tr.run_br, hm]
  by_cases h8 : bs.length % 8 = 0
  · rw [h8, show (((0 : Nat) : Int) == 0) = true from rfl, cond_true, Tr.run_need _ (by rw [hl]; omega), pk_snoc0 bs one h8]
    have hs : pk bs ++ (List.replicate 1 (0 : UInt8)).set 0 0 = pk bs ++ [0] := rfl
    rw [hs, Tr.run_bind]
    cases one with
    | false =>
      rw [Tr.run_br, cond_false, Tr.run_ret, someBind]
      dsimp only
      rw [Tr.run_bind, hon]
      rfl
    | true =>
      have hl2 : (pk bs ++ [(0 : UInt8)]).length = bs.length / 8 + 1 := by rw [List.length_append, hl]; simp; omega
      have hw : w64 (Int.ofNat (pk bs ++ [(0 : UInt8)]).length - 1) = ((bs.length / 8 : Nat) : Int) := by rw [hl2]; simp only [Int.ofNat_eq_natCast]; rw [w64_id (by omega)]; omega
      rw [Tr.run_br, cond_true, hw, hl2]
      have m1 : (0 : Int) ≤ ((bs.length / 8 : Nat) : Int) ∧ ((bs.length / 8 : Nat) : Int) < Int.ofNat (bs.length / 8 + 1) := by simp only [Int.ofNat_eq_natCast]; omega
      rw [Tr.run_need _ m1, Tr.run_bind, hat, someBind]
      dsimp only
      rw [Tr.run_need _ ⟨rfl, rfl, trivial⟩, hm, h8, Tr.run_need _ (by decide), Tr.run_need _ m1, Tr.run_ret, someBind]
      dsimp only
      rw [Tr.run_bind, hon, someBind, Tr.run_ret]
      have hg : (pk bs ++ [(0 : UInt8)]).getD (bs.length / 8) 0 = 0 := by
        rw [List.getD_eq_getElem?_getD, List.getElem?_append_right (by rw [hl]; omega), hl, show bs.length / 8 - (bs.length + 7) / 8 = 0 by omega]; rfl
      rw [Int.toNat_natCast, hg]
      have hset : (pk bs ++ [(0 : UInt8)]).set (bs.length / 8) 128 = pk bs ++ [128] := by
        rw [List.set_append_right _ _ (by rw [hl]; omega), hl, show bs.length / 8 - (bs.length + 7) / 8 = 0 by omega]; rfl
      exact congrArg (fun x => some (((bs.length + 1 : Nat) : Int), x)) hset
  · have hne : (((bs.length % 8 : Nat) : Int) == 0) = false := beq_eq_false_iff_ne.2 (by omega)
    rw [hne, cond_false, Tr.run_bind, pk_snoc1 bs one h8]
    have hb := byteB_snoc bs one
    have hl2 : (pk bs).length = bs.length / 8 + 1 := by rw [hl]; omega
    cases one with
    | false =>
      rw [Tr.run_br, cond_false, Tr.run_ret, someBind]
      dsimp only
      rw [Tr.run_bind, hon, someBind, Tr.run_ret]
      have hset : (pk bs).set (bs.length / 8) (UInt8.ofNat (byteB bs (bs.length / 8) + false.toNat * 2 ^ (7 - bs.length % 8))) = pk bs := by
        rw [show (false : Bool).toNat = 0 from rfl, Nat.zero_mul, Nat.add_zero, ← pk_last bs h8]
        apply List.ext_getElem
        · simp
        · intro j h1 h2
          rw [List.getElem_set]
          split
          · rename_i e
            subst e
            rw [getD_lt _ _ (by omega)]
          · rfl
      rw [hset]
    | true =>
      have hw : w64 (Int.ofNat (pk bs).length - 1) = ((bs.length / 8 : Nat) : Int) := by rw [hl2]; simp only [Int.ofNat_eq_natCast]; rw [w64_id (by omega)]; omega
      rw [Tr.run_br, cond_true, hw, hl2]
      have m1 : (0 : Int) ≤ ((bs.length / 8 : Nat) : Int) ∧ ((bs.length / 8 : Nat) : Int) < Int.ofNat (bs.length / 8 + 1) := by simp only [Int.ofNat_eq_natCast]; omega
      rw [Tr.run_need _ m1, Tr.run_bind, someBind]
      dsimp only
      rw [Tr.run_need _ ⟨rfl, rfl, trivial⟩, hm, Tr.run_need _ (by omega), Tr.run_need _ m1, Tr.run_ret, someBind]
      dsimp only
      rw [Tr.run_bind, hon, someBind, Tr.run_ret, Int.toNat_natCast, pk_last bs h8, p2_nat _ _ (by omega)]
      have hv : byteB bs (bs.length / 8) < 256 := val8_lt _
      have := bit_byte hv (show bs.length % 8 < 8 by omega) hb.2
      rw [← u8_mod, this, u8_mod, show (true : Bool).toNat = 1 from rfl, Nat.one_mul]
end Go.Proofs.Ytfblaicifdgfiaa.Dg
end

section
set_option linter.unusedVariables false
set_option linter.unusedSimpArgs false
set_option maxRecDepth 10000
namespace Go.LM
open Go
def bitsOf (x W : Nat) : List Bool := (List.range W).map fun k => x / 2 ^ (W - 1 - k) % 2 == 1
theorem bitsOf_len (x W : Nat) : (bitsOf x W).length = W := by simp [bitsOf]
theorem and1 (y : Nat) (h : y < 18446744073709551616) : Go.IntKind.u64.wrap (bitsI Go.BinOp.and Go.IntKind.u64 (y : Int) 1) = ((y % 2 : Nat) : Int) := by
  have h1 : (BitVec.ofInt 64 (y : Int)) = BitVec.ofNat 64 y := by apply BitVec.eq_of_toNat_eq; simp [BitVec.toNat_ofInt]
  have h2 : (BitVec.ofInt 64 (1 : Int)) = BitVec.ofNat 64 (2 ^ 1 - 1) := by decide
  have key : (BitVec.ofNat 64 y &&& BitVec.ofNat 64 (2 ^ 1 - 1)).toNat = y % 2 := by
    rw [BitVec.toNat_and, BitVec.toNat_ofNat, BitVec.toNat_ofNat, Nat.mod_eq_of_lt (by omega), Nat.mod_eq_of_lt (by decide), Nat.and_two_pow_sub_one_eq_mod]
  rw [← h1, ← h2] at key
  have : bitsI Go.BinOp.and Go.IntKind.u64 (y : Int) 1 = ((y % 2 : Nat) : Int) := congrArg (fun x : Nat => (x : Int)) key
  rw [this, u64_id (by omega)]
end Go.LM
namespace Go.Proofs.Ytfblaicifdgfiaa.Dg
open Go.LM
theorem lay1_eq (bs : List Bool) (x W : Nat) (hx : x < 18446744073709551616) (hW : W ≤ 64) (h : bs.length ≤ 549755813888) : LQ.lay1 ((x : Int), (W : Int)) (bs.length : Int) (pk bs) = some (((bs.length + W : Nat) : Int), pk (bs ++ bitsOf x W)) := by
  unfold LQ.lay1 LQ.lay1.t
  have hlo := loopO_steps (f := fun (d : Int × Int × List UInt8) ↦ (LQ.lay1.l0 ((x : Int), (W : Int)) d.fst d.snd.fst d.snd.snd).run)
    (fun k => ((W : Int) - 1 - (k : Int), ((bs.length + k : Nat) : Int), pk (bs ++ (bitsOf x W).take k))) (r := (((bs.length + W : Nat) : Int), pk (bs ++ bitsOf x W))) W (fun k hk => by
      have hl : (bs ++ (bitsOf x W).take k).length = bs.length + k := by rw [List.length_append, List.length_take, bitsOf_len]; omega
      unfold LQ.lay1.l0
      dsimp only
      have e1 : (W : Int) - 1 - (k : Int) = ((W - 1 - k : Nat) : Int) := by omega
      rw [e1, Tr.run_br, decide_eq_true (by omega), cond_true, Tr.run_need _ (by omega), p2_nat _ _ (by omega)]
      have e2 : (x : Int) / ((2 ^ (W - 1 - k) : Nat) : Int) = ((x / 2 ^ (W - 1 - k) : Nat) : Int) := rfl
      have e3 : x / 2 ^ (W - 1 - k) < 18446744073709551616 := Nat.lt_of_le_of_lt (Nat.div_le_self _ _) hx
      rw [e2, and1 _ e3]
      have e4 : ((((x / 2 ^ (W - 1 - k)) % 2 : Nat) : Int) == 1) = (x / 2 ^ (W - 1 - k) % 2 == 1) := by
        rw [Bool.eq_iff_iff, beq_iff_eq, beq_iff_eq]; omega
      rw [e4]
      have hb := bit1_eq (bs ++ (bitsOf x W).take k) (x / 2 ^ (W - 1 - k) % 2 == 1) (by omega)
      rw [hl] at hb
      rw [Tr.run_bind, hb, someBind, Tr.run_ret, w64_id (by omega)]
      have e5 : (bitsOf x W).take (k + 1) = (bitsOf x W).take k ++ [x / 2 ^ (W - 1 - k) % 2 == 1] := by
        rw [List.take_succ_eq_append_getElem (by rw [bitsOf_len]; exact hk)]
        congr 2
        simp [bitsOf]
      rw [e5, ← List.append_assoc]
      have e6 : ((W - 1 - k : Nat) : Int) - 1 = (W : Int) - 1 - ((k + 1 : Nat) : Int) := by omega
      rw [e6]
      rfl) (by
      unfold LQ.lay1.l0
      dsimp only
      rw [Tr.run_br, decide_eq_false (by omega), cond_false, Tr.run_ret, List.take_of_length_le (by rw [bitsOf_len]; omega)])
  simp only [List.take_zero, List.append_nil, Nat.add_zero] at hlo
  rw [Tr.run_bind]
  have e0 : w64 ((W : Int) - 1) = (W : Int) - 1 - ((0 : Nat) : Int) := by rw [w64_id (by omega)]; omega
  dsimp only
  rw [e0, hlo]
  rfl
theorem put1_eq (bs : List Bool) (x W : Nat) (hx : x < 2 ^ W) (hW : W < 64) (h : bs.length ≤ 549755813888) : LQ.put1 ((x : Int), (W : Int)) (bs.length : Int) (pk bs) = some (0, ((bs.length + W : Nat) : Int), pk (bs ++ bitsOf x W)) := by
  have hp : 2 ^ W ≤ 2 ^ 63 := Nat.pow_le_pow_right (by decide) (by omega)
  have hl := lay1_eq bs x W (by omega) (by omega) h
  unfold LQ.put1 LQ.put1.t
  have d1 : decide ((W : Int) < 0) = false := decide_eq_false (by omega)
  have d2 : decide ((W : Int) > 64) = false := decide_eq_false (by omega)
  have d3 : decide ((W : Int) < 64) = true := decide_eq_true (by omega)
  have d4 : decide ((x : Int) ≥ Go.IntKind.u64.wrap ((1 : Int) * p2 (W : Int) 64)) = false := by
    rw [p2_nat _ _ (by omega)]
    generalize 2 ^ W = q at hx hp
    rw [u64_id (by omega)]
    exact decide_eq_false (by omega)
  rw [Tr.run_br, cond_false, Tr.run_bind]
  simp only [Tr.run_br, d1, d2, d3, cond_false, cond_true]
  rw [Tr.run_need _ (by omega), Tr.run_ret, someBind]
  dsimp only
  rw [d4, cond_false, Tr.run_bind, hl]
  rfl
theorem bfits_eq (n : Int) (W : Nat) (h1 : 1 ≤ W) (h2 : W ≤ 63) (hn : -((2 ^ (W - 1) : Nat) : Int) ≤ n ∧ n < ((2 ^ (W - 1) : Nat) : Int)) : LQ.bfits n (W : Int) = some true := by
  have hp : 2 ^ (W - 1) ≤ 2 ^ 62 := Nat.pow_le_pow_right (by decide) (by omega)
  have hp0 := Nat.two_pow_pos (W - 1)
  unfold LQ.bfits LQ.bfits.t
  have e1 : w64 ((W : Int) - 1) = ((W - 1 : Nat) : Int) := by rw [w64_id (by omega)]; omega
  rw [Tr.run_bind, Tr.run_br, decide_eq_true (by omega), cond_true, Tr.run_br, decide_eq_true (by omega), cond_true, e1, Tr.run_need _ (by omega), p2_nat _ _ (by omega), Tr.run_ret, someBind, Tr.run_ret]
  generalize 2 ^ (W - 1) = q at hn hp hp0
  have : (n / (q : Int) == n / 9223372036854775808) = true := by
    rw [beq_iff_eq]
    by_cases hneg : n < 0
    · have a : n / (q : Int) = -1 := by
        apply Int.le_antisymm
        · have := Int.ediv_lt_of_lt_mul (a := n) (b := 0) (c := (q : Int)) (by omega) (by omega); omega
        · exact (Int.le_ediv_iff_mul_le (by omega)).2 (by omega)
      rw [a]; omega
    · have a : n / (q : Int) = 0 := Int.ediv_eq_zero_of_lt (by omega) (by omega)
      rw [a]; omega
  rw [this]
def two64 (n : Int) : Nat := (n % 18446744073709551616).toNat
theorem sig1_eq (bs : List Bool) (n : Int) (W : Nat) (h1 : 1 ≤ W) (h2 : W ≤ 63) (hn : -((2 ^ (W - 1) : Nat) : Int) ≤ n ∧ n < ((2 ^ (W - 1) : Nat) : Int)) (h : bs.length ≤ 549755813888) :
    LQ.sig1 (n, (W : Int)) (bs.length : Int) (pk bs) = some (0, ((bs.length + W : Nat) : Int), pk (bs ++ bitsOf (two64 n) W)) := by
  have hw : Go.IntKind.u64.wrap n = (two64 n : Int) := by rw [IntKind.wrap_u64]; unfold two64; omega
  have hl := lay1_eq bs (two64 n) W (by unfold two64; omega) (by omega) h
  unfold LQ.sig1 LQ.sig1.t
  dsimp only
  rw [Tr.run_br, cond_false, Tr.run_bind, bfits_eq n W h1 h2 hn, someBind, Tr.run_br, Bool.not_true, cond_false, hw, Tr.run_bind, hl]
  rfl
end Go.Proofs.Ytfblaicifdgfiaa.Dg
end

section
set_option linter.unusedVariables false
set_option linter.unusedSimpArgs false
set_option maxRecDepth 10000
namespace Go.LM
open Go
abbrev SubD : Type := Int × Int × Int × Int × Int × List Int × (Int × Int × List Int × List Int × Unit) × Unit
def subK (k wst : Int) : SubD := (k, 0, wst, 0, 0, [], (0, 0, [], [], ()), ())
end Go.LM
namespace Go.Proofs.Ytfblaicifdgfiaa.Dg
open Go.LM
theorem Check_eq (k : Int) (hk : k = 0 ∨ k = 1) (wst b W : Nat) (hb : 1 ≤ b ∧ b ≤ 65535) (hW : 1 ≤ W ∧ W ≤ 33) (hw : wst < W) : LQ.Check (subK k wst) (b : Int) (W : Int) = some 0 := by
  have d1 : decide ((b : Int) < 1) = false := decide_eq_false (by omega)
  have d2 : decide ((b : Int) > 65535) = false := decide_eq_false (by omega)
  have d3 : decide ((W : Int) < 1) = false := decide_eq_false (by omega)
  have d4 : decide ((W : Int) > 33) = false := decide_eq_false (by omega)
  have d5 : decide ((wst : Int) < 0) = false := decide_eq_false (by omega)
  have d6 : decide ((wst : Int) ≥ (W : Int)) = false := decide_eq_false (by omega)
  have d7 : decide ((0 : Int) > (b : Int)) = false := decide_eq_false (by omega)
  have hbare : ∀ k, LQ.bare (k, 0, (wst : Int), 0, 0, [], (0, 0, [], [], ()), ()) = some true := fun k => rfl
  unfold LQ.Check LQ.Check.t subK
  rcases hk with rfl | rfl
  · simp only [Tr.run_bind, Tr.run_br, Tr.run_ret, Tr.run_csl, Tr.run_csr, someBind, d1, d2, d3, d4, d5, d6, d7, cond_true, cond_false, Int.reduceBEq, hbare]
    rfl
  · simp only [Tr.run_bind, Tr.run_br, Tr.run_ret, Tr.run_csl, Tr.run_csr, someBind, d1, d2, d3, d4, d5, d6, d7, cond_true, cond_false, Int.reduceBEq, hbare]
    rfl
theorem sfits_eq (n : Int) (W : Nat) (h1 : 1 ≤ W) (h2 : W ≤ 63) (hn : -((2 ^ (W - 1) : Nat) : Int) ≤ n ∧ n < ((2 ^ (W - 1) : Nat) : Int)) : LQ.sfits n (W : Int) = some true := by
  have h := bfits_eq n W h1 h2 hn
  unfold LQ.bfits LQ.bfits.t at h
  rw [Tr.run_bind, Tr.run_br, decide_eq_true (by omega), cond_true, Tr.run_br, decide_eq_true (by omega), cond_true] at h
  unfold LQ.sfits LQ.sfits.t
  obtain ⟨b, hb1, hb2⟩ := Option.bind_eq_some_iff.1 h
  rw [hb1]; exact hb2
end Go.Proofs.Ytfblaicifdgfiaa.Dg
end

section
set_option linter.unusedVariables false
set_option linter.unusedSimpArgs false
set_option maxRecDepth 10000
namespace Go.LM
open Go
def wsBits (wst : Nat) : List Bool := bif wst == 0 then bitsOf 0 1 else bitsOf 1 1 ++ (List.replicate (wst - 1) false ++ [true])
def sgBits (W : Nat) (l : List Int) : List Bool := l.flatMap fun n => bitsOf ((n % 18446744073709551616).toNat) W
theorem sgBits_len (W : Nat) : ∀ (l : List Int), (sgBits W l).length = l.length * W
  | [] => by simp [sgBits]
  | n :: l => by
    have := sgBits_len W l
    simp only [sgBits, List.flatMap_cons, List.length_append, bitsOf_len, List.length_cons, Nat.add_mul, Nat.one_mul] at this ⊢
    omega
theorem wsBits_len (wst : Nat) : (wsBits wst).length = wst + 1 := by
  unfold wsBits
  cases h : wst == 0 with
  | true => rw [beq_iff_eq.1 h]; rfl
  | false =>
    have := beq_eq_false_iff_ne.1 h
    rw [cond_false]; simp [bitsOf_len]; omega
end Go.LM
namespace Go.Proofs.Ytfblaicifdgfiaa.Dg
open Go.LM
end Go.Proofs.Ytfblaicifdgfiaa.Dg
end

section
set_option linter.unusedVariables false
set_option linter.unusedSimpArgs false
set_option maxRecDepth 10000
namespace Go.LM
open Go
def cl (W : Nat) (n : Int) : Int := if (if ((2 ^ (W - 1) : Nat) : Int) - 1 < n then ((2 ^ (W - 1) : Nat) : Int) - 1 else n) > -((2 ^ (W - 1) : Nat) : Int) then (if ((2 ^ (W - 1) : Nat) : Int) - 1 < n then ((2 ^ (W - 1) : Nat) : Int) - 1 else n) else -((2 ^ (W - 1) : Nat) : Int)
end Go.LM
namespace Go.Proofs.Ytfblaicifdgfiaa.Dg
open Go.LM
theorem len1_eq (n : Int) (row : List UInt8) : LQ.len1 n row = some (n, n, row) := by
  unfold LQ.len1 LQ.len1.t
  rw [Tr.run_br, cond_false, Tr.run_bind]
  refine (bindT (a := (n, n, row)) rfl).trans ?_
  dsimp only
  rw [Tr.run_need _ ⟨rfl, rfl, trivial⟩]; rfl
theorem awk_true : LQ.awk = some true := rfl
end Go.Proofs.Ytfblaicifdgfiaa.Dg
end

section
set_option linter.unusedVariables false
set_option linter.unusedSimpArgs false
set_option maxRecDepth 10000
namespace Go.LM
open Go
def valB (l : List Bool) : Nat := l.foldl (fun a b => 2 * a + b.toNat) 0
theorem valB_snoc (l : List Bool) (b : Bool) : valB (l ++ [b]) = 2 * valB l + b.toNat := by simp [valB]
theorem toNat_lt2 (b : Bool) : b.toNat < 2 := by cases b <;> decide
theorem valB_lt (l : List Bool) : valB l < 2 ^ l.length := by
  suffices h : ∀ n (l : List Bool), l.length = n → valB l < 2 ^ n from h _ l rfl
  intro n
  induction n with
  | zero => intro l hl; rw [List.length_eq_zero_iff.1 hl]; decide
  | succ n ih =>
    intro l hl
    have hne : l ≠ [] := fun e => by rw [e] at hl; cases hl
    have e := List.dropLast_concat_getLast hne
    rw [← e, valB_snoc, Nat.pow_succ]
    have := ih l.dropLast (by rw [List.length_dropLast]; omega)
    have := toNat_lt2 (l.getLast hne)
    omega
theorem bitsOf_snoc (x W : Nat) : bitsOf x (W + 1) = bitsOf (x / 2) W ++ [x % 2 == 1] := by
  unfold bitsOf
  rw [List.range_succ, List.map_append]
  congr 1
  · apply List.map_congr_left
    intro k hk
    have hk := List.mem_range.1 hk
    rw [Nat.div_div_eq_div_mul, ← Nat.pow_succ', show (W - 1 - k).succ = W + 1 - 1 - k by omega]
  · simp
theorem valB_bitsOf : ∀ (W x : Nat), valB (bitsOf x W) = x % 2 ^ W
  | 0, x => by simp [bitsOf, valB, Nat.mod_one]
  | W + 1, x => by
    rw [bitsOf_snoc, valB_snoc, valB_bitsOf W (x / 2)]
    have h : (x % 2 == 1).toNat = x % 2 := by
      have : x % 2 = 0 ∨ x % 2 = 1 := by omega
      rcases this with h | h <;> rw [h] <;> rfl
    rw [h, Nat.pow_succ', Nat.mod_mul]; omega
theorem val8_bit : ∀ (a b c d e f g h : Bool) (i : Fin 8), (a.toNat * 128 + b.toNat * 64 + c.toNat * 32 + d.toNat * 16 + e.toNat * 8 + f.toNat * 4 + g.toNat * 2 + h.toNat) / 2 ^ (7 - i.1) % 2 = ([a, b, c, d, e, f, g, h].getD i.1 false).toNat := by decide
theorem byteB_bit (bs : List Bool) (j i : Nat) (hi : i < 8) : byteB bs j / 2 ^ (7 - i) % 2 = (bs.getD (8 * j + i) false).toNat := by
  unfold byteB val8
  refine (val8_bit _ _ _ _ _ _ _ _ ⟨i, hi⟩).trans ?_
  have : i = 0 ∨ i = 1 ∨ i = 2 ∨ i = 3 ∨ i = 4 ∨ i = 5 ∨ i = 6 ∨ i = 7 := by omega
  rcases this with rfl | rfl | rfl | rfl | rfl | rfl | rfl | rfl <;> rfl
theorem pk_getD (bs : List Bool) (j : Nat) (h : j < (bs.length + 7) / 8) : (pk bs).getD j 0 = UInt8.ofNat (byteB bs j) := by
  unfold pk
  rw [List.getD_eq_getElem?_getD, List.getElem?_map, List.getElem?_range h]; rfl
theorem or_bit (n b : Nat) (hn : n < 9223372036854775808) (hb : b < 2) : Go.IntKind.u64.wrap (bitsI Go.BinOp.or Go.IntKind.u64 (Go.IntKind.u64.wrap ((n : Int) * 2)) (b : Int)) = ((2 * n + b : Nat) : Int) := by
  have e0 : Go.IntKind.u64.wrap ((n : Int) * 2) = ((2 * n : Nat) : Int) := by rw [u64_id (by omega)]; omega
  have h1 : (BitVec.ofInt 64 ((2 * n : Nat) : Int)) = BitVec.ofNat 64 (2 * n) := by apply BitVec.eq_of_toNat_eq; simp [BitVec.toNat_ofInt]; omega
  have h2 : (BitVec.ofInt 64 (b : Int)) = BitVec.ofNat 64 b := by apply BitVec.eq_of_toNat_eq; simp [BitVec.toNat_ofInt]
  have key : (BitVec.ofNat 64 (2 * n) ||| BitVec.ofNat 64 b).toNat = 2 * n + b := by
    rw [BitVec.toNat_or, BitVec.toNat_ofNat, BitVec.toNat_ofNat, Nat.mod_eq_of_lt (by omega), Nat.mod_eq_of_lt (by omega)]
    have := Nat.two_pow_add_eq_or_of_lt (i := 1) (b := b) (by omega) n
    rw [Nat.pow_one] at this
    exact this.symm
  rw [← h1, ← h2] at key
  have : bitsI Go.BinOp.or Go.IntKind.u64 ((2 * n : Nat) : Int) (b : Int) = ((2 * n + b : Nat) : Int) := congrArg (fun x : Nat => (x : Int)) key
  rw [e0, this, u64_id (by omega)]
def Bat (all : List Bool) (a : Nat) (mid : List Bool) : Prop := ∃ pre post, all = pre ++ (mid ++ post) ∧ pre.length = a
theorem Bat.left {all : List Bool} {a : Nat} {x y : List Bool} (h : Bat all a (x ++ y)) : Bat all a x := by
  obtain ⟨p, q, h1, h2⟩ := h
  exact ⟨p, y ++ q, by rw [h1, List.append_assoc], h2⟩
theorem Bat.right {all : List Bool} {a : Nat} {x y : List Bool} (h : Bat all a (x ++ y)) : Bat all (a + x.length) y := by
  obtain ⟨p, q, h1, h2⟩ := h
  exact ⟨p ++ x, q, by rw [h1]; simp only [List.append_assoc], by rw [List.length_append, h2]⟩
theorem Bat.le {all : List Bool} {a : Nat} {x : List Bool} (h : Bat all a x) : a + x.length ≤ all.length := by
  obtain ⟨p, q, h1, h2⟩ := h
  rw [h1]; simp only [List.length_append]; omega
theorem Bat.getD {all : List Bool} {a : Nat} {x : List Bool} (h : Bat all a x) (i : Nat) (hi : i < x.length) : all.getD (a + i) false = x.getD i false := by
  obtain ⟨p, q, h1, h2⟩ := h
  rw [h1, ← h2, List.getD_eq_getElem?_getD, List.getElem?_append_right (by omega), show p.length + i - p.length = i by omega, List.getElem?_append_left hi, List.getD_eq_getElem?_getD]
end Go.LM
namespace Go.Proofs.Ytfblaicifdgfiaa.Dg
open Go.LM
theorem peek_eq (bs : List Bool) (a : Nat) (ha : a < bs.length) (hb : bs.length ≤ 1099511627776) (b0 : Int) : LQ.peek (a : Int) b0 (pk bs) = some (((bs.getD a false).toNat : Int), b0, pk bs) := by
  have e1 : w64 ((a : Int).tdiv 8) = ((a / 8 : Nat) : Int) := by
    have : (a : Int).tdiv 8 = ((a / 8 : Nat) : Int) := rfl
    rw [this, w64_id (by omega)]
  have e2 : w64 ((7 : Int) - (a : Int).tmod 8) = ((7 - a % 8 : Nat) : Int) := by
    have : (a : Int).tmod 8 = ((a % 8 : Nat) : Int) := rfl
    rw [this, w64_id (by omega)]; omega
  unfold LQ.peek LQ.peek.t
  rw [e1, e2, Tr.run_need _ (by rw [pk_len]; simp only [Int.ofNat_eq_natCast]; omega), Tr.run_need _ (by omega), Tr.run_ret, Int.toNat_natCast, pk_getD _ _ (by omega), p2_nat _ _ (by omega)]
  have hv := val8_lt (fun i => bs.getD (8 * (a / 8) + i) false)
  have hbit := byteB_bit bs (a / 8) (a % 8) (by omega)
  rw [show 8 * (a / 8) + a % 8 = a by omega] at hbit
  have e3 : Int.ofNat (UInt8.ofNat (byteB bs (a / 8))).toNat = ((byteB bs (a / 8) : Nat) : Int) := by
    rw [UInt8.toNat_ofNat', Nat.mod_eq_of_lt (show byteB bs (a / 8) < 2 ^ 8 from hv)]; rfl
  have e4 : ((byteB bs (a / 8) : Nat) : Int) / ((2 ^ (7 - a % 8) : Nat) : Int) = ((byteB bs (a / 8) / 2 ^ (7 - a % 8) : Nat) : Int) := rfl
  have e5 : byteB bs (a / 8) / 2 ^ (7 - a % 8) < 256 := Nat.lt_of_le_of_lt (Nat.div_le_self _ _) hv
  rw [e3, e4]
  generalize byteB bs (a / 8) / 2 ^ (7 - a % 8) = q at e5 hbit
  have e6 : (UInt8.ofNat ((q : Int) % 256).toNat).toNat = q := by rw [UInt8.toNat_ofNat']; omega
  rw [e6]
  have e7 : Go.IntKind.u64.wrap (Int.ofNat q) = (q : Int) := by rw [u64_id (by simp only [Int.ofNat_eq_natCast]; omega)]; rfl
  rw [e7, and1 q (by omega), hbit]
theorem Left_eq (bs : List Bool) (a : Nat) (ha : a ≤ bs.length) (hb : bs.length ≤ 1099511627776) : LQ.Left (a : Int) (pk bs) = some (((8 * ((bs.length + 7) / 8) - a : Nat) : Int), (a : Int), pk bs) := by
  unfold LQ.Left LQ.Left.t
  rw [Tr.run_br, cond_false, Tr.run_bind]
  refine (bindT (a := ((a : Int), (a : Int), pk bs)) rfl).trans ?_
  dsimp only
  rw [Tr.run_need _ ⟨rfl, rfl, trivial⟩, Tr.run_ret, pk_len]
  have : w64 (w64 ((8 : Int) * Int.ofNat ((bs.length + 7) / 8)) - (a : Int)) = ((8 * ((bs.length + 7) / 8) - a : Nat) : Int) := by
    simp only [Int.ofNat_eq_natCast]
    rw [w64_id (x := 8 * (((bs.length + 7) / 8 : Nat) : Int)) (by omega), w64_id (by omega)]; omega
  rw [this]
theorem Get_eq (all mid : List Bool) (a W : Nat) (h : Bat all a mid) (hl : mid.length = W) (hW : W ≤ 64) (hb : all.length ≤ 1099511627776) : LQ.Get (W : Int) (a : Int) (pk all) = some ((((valB mid : Nat) : Int), 0), ((a + W : Nat) : Int), pk all) := by
  have hle := h.le
  unfold LQ.Get LQ.Get.t
  have d1 : decide ((W : Int) < 0) = false := decide_eq_false (by omega)
  have d2 : decide ((W : Int) > 64) = false := decide_eq_false (by omega)
  rw [Tr.run_br, cond_false, Tr.run_bind, Tr.run_br, d1, cond_false, Tr.run_ret, someBind, d2]
  dsimp only
  rw [Tr.run_br, cond_false, Tr.run_bind, Left_eq all a (by omega) hb, someBind]
  dsimp only
  have d3 : decide (((8 * ((all.length + 7) / 8) - a : Nat) : Int) < (W : Int)) = false := decide_eq_false (by omega)
  rw [Tr.run_need _ ⟨rfl, rfl, trivial⟩, d3, Tr.run_br, cond_false, Tr.run_bind]
  have hlo := loopO_steps (f := fun (d : Int × Int × Int × List UInt8) ↦ (LQ.Get.l0 (W : Int) d.fst d.snd.fst d.snd.snd.fst d.snd.snd.snd).run) (fun k => (((valB (mid.take k) : Nat) : Int), (k : Int), (a : Int), pk all)) (r := (((valB mid : Nat) : Int), (a : Int), pk all)) W (fun k hk => by
    have hat : LQ.atR (a : Int) (pk all) = some ((a : Int), (a : Int), pk all) := rfl
    have hp := peek_eq all (a + k) (by omega) hb (a : Int)
    have hw : w64 ((a : Int) + (k : Int)) = ((a + k : Nat) : Int) := by rw [w64_id (by omega)]; omega
    unfold LQ.Get.l0
    dsimp only
    rw [decide_eq_true (p := (k : Int) < (W : Int)) (by omega), Tr.run_br, cond_true, Tr.run_bind, hat, someBind]
    dsimp only
    rw [Tr.run_need _ ⟨rfl, rfl, trivial⟩, Tr.run_bind, hw, hp, someBind]
    dsimp only
    rw [Tr.run_need _ ⟨rfl, rfl, trivial⟩, Tr.run_ret, h.getD k (by omega)]
    have hv := valB_lt (mid.take k)
    rw [List.length_take, Nat.min_eq_left (by omega)] at hv
    have hp2 : 2 ^ k ≤ 2 ^ 63 := Nat.pow_le_pow_right (by decide) (by omega)
    have hm : mid.getD k false = mid[k] := getD_lt _ _ (by omega)
    have e := toNat_lt2 (mid.getD k false)
    rw [or_bit _ _ (by omega) e, w64_id (by omega)]
    have e2 : mid.take (k + 1) = mid.take k ++ [mid.getD k false] := by rw [List.take_succ_eq_append_getElem (by omega), hm]
    rw [e2, valB_snoc]
    rfl) (by
    unfold LQ.Get.l0
    dsimp only
    rw [decide_eq_false (by omega), Tr.run_br, cond_false, Tr.run_ret, List.take_of_length_le (by omega)])
  refine (bindT (a := (((valB mid : Nat) : Int), (a : Int), pk all)) hlo).trans ?_
  dsimp only
  have hon : LQ.onR (W : Int) (a : Int) (pk all) = some (((a + W : Nat) : Int), pk all) := by
    unfold LQ.onR LQ.onR.t
    rw [Tr.run_ret, w64_id (by omega)]; rfl
  rw [Tr.run_bind, hon]
  rfl
theorem sx_eq (n : Int) (W : Nat) (h1 : 1 ≤ W) (h2 : W ≤ 63) (hn : -((2 ^ (W - 1) : Nat) : Int) ≤ n ∧ n < ((2 ^ (W - 1) : Nat) : Int)) :
    w64 (Go.IntKind.u64.wrap (((two64 n % 2 ^ W : Nat) : Int) * ((2 ^ (64 - W) : Nat) : Int))) / ((2 ^ (64 - W) : Nat) : Int) = n := by
  have hA : (2 : Nat) ^ 64 = 2 ^ W * 2 ^ (64 - W) := by rw [← Nat.pow_add]; congr 1; omega
  have hB : (2 : Nat) ^ 63 = 2 ^ (W - 1) * 2 ^ (64 - W) := by rw [← Nat.pow_add]; congr 1; omega
  have hC : (2 : Nat) ^ W = 2 * 2 ^ (W - 1) := by rw [← Nat.pow_succ']; congr 1; omega
  have hpos : 0 < 2 ^ (64 - W) := Nat.pow_pos (by decide)
  have hP0 : 0 < 2 ^ (W - 1) := Nat.pow_pos (by decide)
  have hP62 : 2 ^ (W - 1) ≤ 2 ^ 62 := Nat.pow_le_pow_right (by decide) (by omega)
  generalize hq : 2 ^ (64 - W) = q at *
  generalize hp : 2 ^ (W - 1) = p at *
  have hdvd : 2 ^ W ∣ 18446744073709551616 := ⟨q, by rw [← hA]⟩
  have e1 : ((two64 n % 2 ^ W : Nat) : Int) = n % ((2 ^ W : Nat) : Int) := by
    unfold two64
    have a1 : 0 ≤ n % 18446744073709551616 := Int.emod_nonneg _ (by decide)
    have a2 : (((n % 18446744073709551616).toNat % 2 ^ W : Nat) : Int) = (n % 18446744073709551616) % ((2 ^ W : Nat) : Int) := by
      rw [Int.natCast_emod, Int.toNat_of_nonneg a1]
    rw [a2]
    exact Int.emod_emod_of_dvd n (Int.natCast_dvd_natCast.2 hdvd)
  rw [e1, hC]
  have hAq : (2 * p * q : Int) = 18446744073709551616 := by
    have := congrArg (fun x : Nat => (x : Int)) hA
    simp only [hC, Nat.reducePow, Int.natCast_mul] at this
    exact this.symm
  have hBq : (p * q : Int) = 9223372036854775808 := by
    have : (2 : Int) * (p * q) = 18446744073709551616 := by rw [← Int.mul_assoc]; exact hAq
    omega
  have hq0 : (0 : Int) < (q : Int) := by omega
  by_cases hneg : n < 0
  · have e2 : n % ((2 * p : Nat) : Int) = n + 2 * p := by
      rw [← Int.add_emod_right (a := n), Int.emod_eq_of_lt (by omega) (by omega)]; omega
    have e3 : (n + 2 * (p : Int)) * (q : Int) = n * q + 18446744073709551616 := by rw [Int.add_mul, hAq]
    have l1 : n * (q : Int) < 0 := Int.mul_neg_of_neg_of_pos hneg hq0
    have l2 : -9223372036854775808 ≤ n * (q : Int) := by
      have := Int.mul_le_mul_of_nonneg_right (show -(p : Int) ≤ n from hn.1) (Int.le_of_lt hq0)
      rw [Int.neg_mul, hBq] at this; exact this
    rw [e2, e3]
    have e4 : Go.IntKind.u64.wrap (n * (q : Int) + 18446744073709551616) = n * q + 18446744073709551616 := u64_id (by omega)
    have e5 : w64 (n * (q : Int) + 18446744073709551616) = n * q := by
      show IntKind.i64.wrap _ = _
      rw [IntKind.wrap_i64]; omega
    rw [e4, e5]
    exact Int.mul_ediv_cancel _ (by omega)
  · have e2 : n % ((2 * p : Nat) : Int) = n := Int.emod_eq_of_lt (by omega) (by omega)
    have l1 : 0 ≤ n * (q : Int) := Int.mul_nonneg (by omega) (Int.le_of_lt hq0)
    have l2 : n * (q : Int) < 9223372036854775808 := by
      have := Int.mul_lt_mul_of_pos_right (show n < (p : Int) from hn.2) hq0
      rw [hBq] at this; exact this
    rw [e2, u64_id (by omega), w64_id (by omega)]
    exact Int.mul_ediv_cancel _ (by omega)
theorem SignedR_eq (all : List Bool) (a W : Nat) (n : Int) (h : Bat all a (bitsOf (two64 n) W)) (h1 : 1 ≤ W) (h2 : W ≤ 63) (hn : -((2 ^ (W - 1) : Nat) : Int) ≤ n ∧ n < ((2 ^ (W - 1) : Nat) : Int)) (hb : all.length ≤ 1099511627776) :
    LQ.SignedR (W : Int) (a : Int) (pk all) = some ((n, 0), ((a + W : Nat) : Int), pk all) := by
  have hg := Get_eq all _ a W h (bitsOf_len _ _) (by omega) hb
  rw [valB_bitsOf] at hg
  unfold LQ.SignedR LQ.SignedR.t
  have d1 : decide ((W : Int) < 1) = false := decide_eq_false (by omega)
  rw [Tr.run_bind, Tr.run_br, cond_true, Tr.run_ret, someBind, d1]
  dsimp only
  rw [Tr.run_br, cond_false, Tr.run_bind, hg, someBind]
  dsimp only
  have hw : w64 ((64 : Int) - (W : Int)) = ((64 - W : Nat) : Int) := by rw [w64_id (by omega)]; omega
  rw [Tr.run_br, bne_self_eq_false, cond_false, hw, Tr.run_need _ (by omega), Tr.run_need _ (by omega), Tr.run_ret, p2_nat _ _ (by omega), sx_eq n W h1 h2 hn]
end Go.Proofs.Ytfblaicifdgfiaa.Dg
end

