/- Sga: SgA SgB SgC SgD SgF. -/
import Derived.Test.YtfblaicifdgfiaaSfD
import Derived.Test.YtfblaicifdgfiaaLmH
import Derived.Test.YtfblaicifdgfiaaSfE
section
set_option linter.unusedVariables false
set_option linter.unusedSimpArgs false
set_option maxRecDepth 10000
namespace Go.LM
open Go
theorem bindT {A B : Type} {o : Option A} {f : A → Option B} {a : A} (h : o = some a) : o.bind f = f a := by rw [h]; rfl
theorem p2_nat (k n : Nat) (h : k ≤ n) : p2 ((k : Nat) : Int) n = ((2 ^ k : Nat) : Int) := by
  unfold p2
  rw [Int.toNat_natCast, Nat.min_eq_left h]
def val8 (f : Nat → Bool) : Nat := (f 0).toNat * 128 + (f 1).toNat * 64 + (f 2).toNat * 32 + (f 3).toNat * 16 + (f 4).toNat * 8 + (f 5).toNat * 4 + (f 6).toNat * 2 + (f 7).toNat
def byteB (bs : List Bool) (j : Nat) : Nat := val8 fun i => bs.getD (8 * j + i) false
def pk (bs : List Bool) : List UInt8 := (List.range ((bs.length + 7) / 8)).map fun j => UInt8.ofNat (byteB bs j)
theorem pk_len (bs : List Bool) : (pk bs).length = (bs.length + 7) / 8 := by simp [pk]
theorem val8_lt (f : Nat → Bool) : val8 f < 256 := by
  unfold val8
  cases f 0 <;> cases f 1 <;> cases f 2 <;> cases f 3 <;> cases f 4 <;> cases f 5 <;> cases f 6 <;> cases f 7 <;> decide
theorem val8_congr {f g : Nat → Bool} (h : ∀ i, i < 8 → f i = g i) : val8 f = val8 g := by
  unfold val8
  rw [h 0 (by decide), h 1 (by decide), h 2 (by decide), h 3 (by decide), h 4 (by decide), h 5 (by decide), h 6 (by decide), h 7 (by decide)]
theorem val8_put {f g : Nat → Bool} {i : Nat} {b : Bool} (hi : i < 8) (h0 : ∀ k, i ≤ k → f k = false) (hg : ∀ k, g k = if k = i then b else f k) : val8 g = val8 f + b.toNat * 2 ^ (7 - i) ∧ val8 f % 2 ^ (8 - i) = 0 := by
  unfold val8
  rw [hg 0, hg 1, hg 2, hg 3, hg 4, hg 5, hg 6, hg 7]
  have : i = 0 ∨ i = 1 ∨ i = 2 ∨ i = 3 ∨ i = 4 ∨ i = 5 ∨ i = 6 ∨ i = 7 := by omega
  rcases this with rfl | rfl | rfl | rfl | rfl | rfl | rfl | rfl <;> simp [h0] <;> omega
theorem getD_snoc (bs : List Bool) (b : Bool) (k : Nat) : (bs ++ [b]).getD k false = if k = bs.length then b else bs.getD k false := by
  rw [List.getD_eq_getElem?_getD, List.getD_eq_getElem?_getD]
  by_cases h : k < bs.length
  · rw [List.getElem?_append_left h, if_neg (by omega)]
  · rw [List.getElem?_append_right (by omega)]
    by_cases h2 : k = bs.length
    · subst h2; simp
    · rw [if_neg h2, List.getElem?_eq_none (by simp; omega), List.getElem?_eq_none (by omega)]
theorem getD_out (bs : List Bool) (k : Nat) (h : bs.length ≤ k) : bs.getD k false = false := by
  rw [List.getD_eq_getElem?_getD, List.getElem?_eq_none h]; rfl
theorem byteB_snoc_ne (bs : List Bool) (b : Bool) (j : Nat) (h : j ≠ bs.length / 8) : byteB (bs ++ [b]) j = byteB bs j := by
  unfold byteB
  apply val8_congr
  intro i hi
  rw [getD_snoc, if_neg (by omega)]
theorem byteB_snoc (bs : List Bool) (b : Bool) : byteB (bs ++ [b]) (bs.length / 8) = byteB bs (bs.length / 8) + b.toNat * 2 ^ (7 - bs.length % 8) ∧ byteB bs (bs.length / 8) % 2 ^ (8 - bs.length % 8) = 0 := by
  unfold byteB
  refine val8_put (i := bs.length % 8) (by omega) (fun k hk => getD_out _ _ (by omega)) (fun k => ?_)
  rw [getD_snoc]
  by_cases h : k = bs.length % 8
  · rw [if_pos h, if_pos (by omega)]
  · rw [if_neg h, if_neg (by omega)]
theorem pk_snoc0 (bs : List Bool) (b : Bool) (h : bs.length % 8 = 0) : pk (bs ++ [b]) = pk bs ++ [UInt8.ofNat (b.toNat * 128)] := by
  have h1 : ((bs ++ [b]).length + 7) / 8 = (bs.length + 7) / 8 + 1 := by simp; omega
  have h2 : (bs.length + 7) / 8 = bs.length / 8 := by omega
  unfold pk
  rw [h1, List.range_succ, List.map_append, h2]
  congr 1
  · apply List.map_congr_left
    intro j hj
    rw [byteB_snoc_ne bs b j (by have := List.mem_range.1 hj; omega)]
  · have h3 := (byteB_snoc bs b).1
    rw [List.map_cons, List.map_nil, h3, h]
    have h0 : byteB bs (bs.length / 8) = 0 := (val8_congr (g := fun _ => false) fun i hi => getD_out _ _ (by omega)).trans rfl
    rw [h0, Nat.zero_add]
theorem pk_snoc1 (bs : List Bool) (b : Bool) (h : bs.length % 8 ≠ 0) : pk (bs ++ [b]) = (pk bs).set (bs.length / 8) (UInt8.ofNat (byteB bs (bs.length / 8) + b.toNat * 2 ^ (7 - bs.length % 8))) := by
  have h1 : ((bs ++ [b]).length + 7) / 8 = (bs.length + 7) / 8 := by simp; omega
  unfold pk
  rw [h1]
  apply List.ext_getElem
  · simp
  · intro j h2 h3
    rw [List.getElem_set]
    simp only [List.getElem_map, List.getElem_range]
    split
    · rename_i e
      rw [← e, (byteB_snoc bs b).1]
    · rename_i e
      rw [byteB_snoc_ne bs b j (fun e2 => e e2.symm)]
theorem pk_last (bs : List Bool) (h : bs.length % 8 ≠ 0) : (pk bs).getD (bs.length / 8) 0 = UInt8.ofNat (byteB bs (bs.length / 8)) := by
  unfold pk
  rw [List.getD_eq_getElem?_getD, List.getElem?_map, List.getElem?_range (by omega)]
  rfl
theorem or8 : ∀ (v : Fin 256) (i : Fin 8), v.1 % 2 ^ (8 - i.1) = 0 → bitsI Go.BinOp.or Go.IntKind.u8 (v.1 : Int) ((128 / 2 ^ i.1 : Nat) : Int) = ((v.1 + 2 ^ (7 - i.1) : Nat) : Int) := by decide +kernel
end Go.LM
namespace Go.Proofs.Ytfblaicifdgfiaa.Dg
open Go.LM
theorem bit_byte {v i : Nat} (hv : v < 256) (hi : i < 8) (h : v % 2 ^ (8 - i) = 0) :
    (bitsI Go.BinOp.or Go.IntKind.u8 (Int.ofNat (UInt8.ofNat v).toNat) (Int.ofNat (UInt8.ofNat ((128 : Int) / ((2 ^ i : Nat) : Int) % (256 : Int)).toNat).toNat) % (256 : Int)).toNat % 256 = (v + 2 ^ (7 - i)) % 256 := by
  have h3 : (128 : Int) / ((2 ^ i : Nat) : Int) = ((128 / 2 ^ i : Nat) : Int) := rfl
  have e1 : ((128 : Int) / ((2 ^ i : Nat) : Int) % (256 : Int)).toNat = 128 / 2 ^ i % 256 := by
    rw [h3]
    generalize 128 / 2 ^ i = q
    omega
  have e2 : 128 / 2 ^ i ≤ 128 := Nat.div_le_self _ _
  rw [e1, UInt8.toNat_ofNat', UInt8.toNat_ofNat']
  simp only [Int.ofNat_eq_natCast]
  have h4 := or8 ⟨v, hv⟩ ⟨i, hi⟩ h
  simp only at h4
  have h5 : 128 / 2 ^ i % 256 % 2 ^ 8 = 128 / 2 ^ i := by
    generalize 128 / 2 ^ i = q at e2
    omega
  rw [show v % 2 ^ 8 = v from Nat.mod_eq_of_lt (by omega), h5, h4]
  generalize v + 2 ^ (7 - i) = q
  omega
theorem u8_mod (m : Nat) : UInt8.ofNat (m % 256) = UInt8.ofNat m := by
  apply UInt8.toNat_inj.1
  rw [UInt8.toNat_ofNat', UInt8.toNat_ofNat']
  omega
theorem bit1_eq (bs : List Bool) (one : Bool) (h : bs.length ≤ 1099511627776) : LQ.bit1 one (bs.length : Int) (pk bs) = some (((bs.length + 1 : Nat) : Int), pk (bs ++ [one])) := by
  have hl := pk_len bs
  have hm : ((bs.length : Int)).tmod 8 = ((bs.length % 8 : Nat) : Int) := rfl
  have hon : ∀ row, LQ.on1 1 (bs.length : Int) row = some (((bs.length + 1 : Nat) : Int), row) := fun row => by
    unfold LQ.on1 LQ.on1.t
    rw [Tr.run_ret, w64_id (by omega)]; rfl
  have hat : ∀ row, LQ.at1 (bs.length : Int) row = some ((bs.length : Int), (bs.length : Int), row) := fun row => rfl
  unfold LQ.bit1 LQ.bit1.t
  rw [Tr.run_bind, hat, someBind]
  dsimp only
  rw [Tr.run_need _ ⟨rfl, rfl, trivial⟩, Tr.run_br, hm]
  by_cases h8 : bs.length % 8 = 0
  · rw [h8, show (((0 : Nat) : Int) == 0) = true from rfl, cond_true, Tr.run_need _ (by rw [hl]; omega), pk_snoc0 bs one h8]
    have hs : pk bs ++ (List.replicate 1 (0 : UInt8)).set 0 0 = pk bs ++ [0] := rfl
    rw [hs, Tr.run_bind]
    cases one with
    | false =>
      rw [Tr.run_br, cond_false, Tr.run_ret, someBind]
      dsimp only
      rw [Tr.run_bind, hon]
      rfl
    | true =>
      have hl2 : (pk bs ++ [(0 : UInt8)]).length = bs.length / 8 + 1 := by rw [List.length_append, hl]; simp; omega
      have hw : w64 (Int.ofNat (pk bs ++ [(0 : UInt8)]).length - 1) = ((bs.length / 8 : Nat) : Int) := by rw [hl2]; simp only [Int.ofNat_eq_natCast]; rw [w64_id (by omega)]; omega
      rw [Tr.run_br, cond_true, hw, hl2]
      have m1 : (0 : Int) ≤ ((bs.length / 8 : Nat) : Int) ∧ ((bs.length / 8 : Nat) : Int) < Int.ofNat (bs.length / 8 + 1) := by simp only [Int.ofNat_eq_natCast]; omega
      rw [Tr.run_need _ m1, Tr.run_bind, hat, someBind]
      dsimp only
      rw [Tr.run_need _ ⟨rfl, rfl, trivial⟩, hm, h8, Tr.run_need _ (by decide), Tr.run_need _ m1, Tr.run_ret, someBind]
      dsimp only
      rw [Tr.run_bind, hon, someBind, Tr.run_ret]
      have hg : (pk bs ++ [(0 : UInt8)]).getD (bs.length / 8) 0 = 0 := by
        rw [List.getD_eq_getElem?_getD, List.getElem?_append_right (by rw [hl]; omega), hl, show bs.length / 8 - (bs.length + 7) / 8 = 0 by omega]; rfl
      rw [Int.toNat_natCast, hg]
      have hset : (pk bs ++ [(0 : UInt8)]).set (bs.length / 8) 128 = pk bs ++ [128] := by
        rw [List.set_append_right _ _ (by rw [hl]; omega), hl, show bs.length / 8 - (bs.length + 7) / 8 = 0 by omega]; rfl
      exact congrArg (fun x => some (((bs.length + 1 : Nat) : Int), x)) hset
  · have hne : (((bs.length % 8 : Nat) : Int) == 0) = false := beq_eq_false_iff_ne.2 (by omega)
    rw [hne, cond_false, Tr.run_bind, pk_snoc1 bs one h8]
    have hb := byteB_snoc bs one
    have hl2 : (pk bs).length = bs.length / 8 + 1 := by rw [hl]; omega
    cases one with
    | false =>
      rw [Tr.run_br, cond_false, Tr.run_ret, someBind]
      dsimp only
      rw [Tr.run_bind, hon, someBind, Tr.run_ret]
      have hset : (pk bs).set (bs.length / 8) (UInt8.ofNat (byteB bs (bs.length / 8) + false.toNat * 2 ^ (7 - bs.length % 8))) = pk bs := by
        rw [show (false : Bool).toNat = 0 from rfl, Nat.zero_mul, Nat.add_zero, ← pk_last bs h8]
        apply List.ext_getElem
        · simp
        · intro j h1 h2
          rw [List.getElem_set]
          split
          · rename_i e
            subst e
            rw [getD_lt _ _ (by omega)]
          · rfl
      rw [hset]
    | true =>
      have hw : w64 (Int.ofNat (pk bs).length - 1) = ((bs.length / 8 : Nat) : Int) := by rw [hl2]; simp only [Int.ofNat_eq_natCast]; rw [w64_id (by omega)]; omega
      rw [Tr.run_br, cond_true, hw, hl2]
      have m1 : (0 : Int) ≤ ((bs.length / 8 : Nat) : Int) ∧ ((bs.length / 8 : Nat) : Int) < Int.ofNat (bs.length / 8 + 1) := by simp only [Int.ofNat_eq_natCast]; omega
      rw [Tr.run_need _ m1, Tr.run_bind, someBind]
      dsimp only
      rw [Tr.run_need _ ⟨rfl, rfl, trivial⟩, hm, Tr.run_need _ (by omega), Tr.run_need _ m1, Tr.run_ret, someBind]
      dsimp only
      rw [Tr.run_bind, hon, someBind, Tr.run_ret, Int.toNat_natCast, pk_last bs h8, p2_nat _ _ (by omega)]
      have hv : byteB bs (bs.length / 8) < 256 := val8_lt _
      have := bit_byte hv (show bs.length % 8 < 8 by omega) hb.2
      rw [← u8_mod, this, u8_mod, show (true : Bool).toNat = 1 from rfl, Nat.one_mul]
end Go.Proofs.Ytfblaicifdgfiaa.Dg
end

section
set_option linter.unusedVariables false
set_option linter.unusedSimpArgs false
set_option maxRecDepth 10000
namespace Go.LM
open Go
def bitsOf (x W : Nat) : List Bool := (List.range W).map fun k => x / 2 ^ (W - 1 - k) % 2 == 1
theorem bitsOf_len (x W : Nat) : (bitsOf x W).length = W := by simp [bitsOf]
theorem and1 (y : Nat) (h : y < 18446744073709551616) : Go.IntKind.u64.wrap (bitsI Go.BinOp.and Go.IntKind.u64 (y : Int) 1) = ((y % 2 : Nat) : Int) := by
  have h1 : (BitVec.ofInt 64 (y : Int)) = BitVec.ofNat 64 y := by apply BitVec.eq_of_toNat_eq; simp [BitVec.toNat_ofInt]
  have h2 : (BitVec.ofInt 64 (1 : Int)) = BitVec.ofNat 64 (2 ^ 1 - 1) := by decide
  have key : (BitVec.ofNat 64 y &&& BitVec.ofNat 64 (2 ^ 1 - 1)).toNat = y % 2 := by
    rw [BitVec.toNat_and, BitVec.toNat_ofNat, BitVec.toNat_ofNat, Nat.mod_eq_of_lt (by omega), Nat.mod_eq_of_lt (by decide), Nat.and_two_pow_sub_one_eq_mod]
  rw [← h1, ← h2] at key
  have : bitsI Go.BinOp.and Go.IntKind.u64 (y : Int) 1 = ((y % 2 : Nat) : Int) := congrArg (fun x : Nat => (x : Int)) key
  rw [this, u64_id (by omega)]
end Go.LM
namespace Go.Proofs.Ytfblaicifdgfiaa.Dg
open Go.LM
theorem lay1_eq (bs : List Bool) (x W : Nat) (hx : x < 18446744073709551616) (hW : W ≤ 64) (h : bs.length ≤ 549755813888) : LQ.lay1 ((x : Int), (W : Int)) (bs.length : Int) (pk bs) = some (((bs.length + W : Nat) : Int), pk (bs ++ bitsOf x W)) := by
  unfold LQ.lay1 LQ.lay1.t
  have hlo := loopO_steps (f := fun (d : Int × Int × List UInt8) ↦ (LQ.lay1.l0 ((x : Int), (W : Int)) d.fst d.snd.fst d.snd.snd).run)
    (fun k => ((W : Int) - 1 - (k : Int), ((bs.length + k : Nat) : Int), pk (bs ++ (bitsOf x W).take k))) (r := (((bs.length + W : Nat) : Int), pk (bs ++ bitsOf x W))) W (fun k hk => by
      have hl : (bs ++ (bitsOf x W).take k).length = bs.length + k := by rw [List.length_append, List.length_take, bitsOf_len]; omega
      unfold LQ.lay1.l0
      dsimp only
      have e1 : (W : Int) - 1 - (k : Int) = ((W - 1 - k : Nat) : Int) := by omega
      rw [e1, Tr.run_br, decide_eq_true (by omega), cond_true, Tr.run_need _ (by omega), p2_nat _ _ (by omega)]
      have e2 : (x : Int) / ((2 ^ (W - 1 - k) : Nat) : Int) = ((x / 2 ^ (W - 1 - k) : Nat) : Int) := rfl
      have e3 : x / 2 ^ (W - 1 - k) < 18446744073709551616 := Nat.lt_of_le_of_lt (Nat.div_le_self _ _) hx
      rw [e2, and1 _ e3]
      have e4 : ((((x / 2 ^ (W - 1 - k)) % 2 : Nat) : Int) == 1) = (x / 2 ^ (W - 1 - k) % 2 == 1) := by
        rw [Bool.eq_iff_iff, beq_iff_eq, beq_iff_eq]; omega
      rw [e4]
      have hb := bit1_eq (bs ++ (bitsOf x W).take k) (x / 2 ^ (W - 1 - k) % 2 == 1) (by omega)
      rw [hl] at hb
      rw [Tr.run_bind, hb, someBind, Tr.run_ret, w64_id (by omega)]
      have e5 : (bitsOf x W).take (k + 1) = (bitsOf x W).take k ++ [x / 2 ^ (W - 1 - k) % 2 == 1] := by
        rw [List.take_succ_eq_append_getElem (by rw [bitsOf_len]; exact hk)]
        congr 2
        simp [bitsOf]
      rw [e5, ← List.append_assoc]
      have e6 : ((W - 1 - k : Nat) : Int) - 1 = (W : Int) - 1 - ((k + 1 : Nat) : Int) := by omega
      rw [e6]
      rfl) (by
      unfold LQ.lay1.l0
      dsimp only
      rw [Tr.run_br, decide_eq_false (by omega), cond_false, Tr.run_ret, List.take_of_length_le (by rw [bitsOf_len]; omega)])
  simp only [List.take_zero, List.append_nil, Nat.add_zero] at hlo
  rw [Tr.run_bind]
  have e0 : w64 ((W : Int) - 1) = (W : Int) - 1 - ((0 : Nat) : Int) := by rw [w64_id (by omega)]; omega
  dsimp only
  rw [e0, hlo]
  rfl
theorem put1_eq (bs : List Bool) (x W : Nat) (hx : x < 2 ^ W) (hW : W < 64) (h : bs.length ≤ 549755813888) : LQ.put1 ((x : Int), (W : Int)) (bs.length : Int) (pk bs) = some (0, ((bs.length + W : Nat) : Int), pk (bs ++ bitsOf x W)) := by
  have hp : 2 ^ W ≤ 2 ^ 63 := Nat.pow_le_pow_right (by decide) (by omega)
  have hl := lay1_eq bs x W (by omega) (by omega) h
  unfold LQ.put1 LQ.put1.t
  have d1 : decide ((W : Int) < 0) = false := decide_eq_false (by omega)
  have d2 : decide ((W : Int) > 64) = false := decide_eq_false (by omega)
  have d3 : decide ((W : Int) < 64) = true := decide_eq_true (by omega)
  have d4 : decide ((x : Int) ≥ Go.IntKind.u64.wrap ((1 : Int) * p2 (W : Int) 64)) = false := by
    rw [p2_nat _ _ (by omega)]
    generalize 2 ^ W = q at hx hp
    rw [u64_id (by omega)]
    exact decide_eq_false (by omega)
  rw [Tr.run_br, cond_false, Tr.run_bind]
  simp only [Tr.run_br, d1, d2, d3, cond_false, cond_true]
  rw [Tr.run_need _ (by omega), Tr.run_ret, someBind]
  dsimp only
  rw [d4, cond_false, Tr.run_bind, hl]
  rfl
theorem bfits_eq (n : Int) (W : Nat) (h1 : 1 ≤ W) (h2 : W ≤ 63) (hn : -((2 ^ (W - 1) : Nat) : Int) ≤ n ∧ n < ((2 ^ (W - 1) : Nat) : Int)) : LQ.bfits n (W : Int) = some true := by
  have hp : 2 ^ (W - 1) ≤ 2 ^ 62 := Nat.pow_le_pow_right (by decide) (by omega)
  have hp0 := Nat.two_pow_pos (W - 1)
  unfold LQ.bfits LQ.bfits.t
  have e1 : w64 ((W : Int) - 1) = ((W - 1 : Nat) : Int) := by rw [w64_id (by omega)]; omega
  rw [Tr.run_bind, Tr.run_br, decide_eq_true (by omega), cond_true, Tr.run_br, decide_eq_true (by omega), cond_true, e1, Tr.run_need _ (by omega), p2_nat _ _ (by omega), Tr.run_ret, someBind, Tr.run_ret]
  generalize 2 ^ (W - 1) = q at hn hp hp0
  have : (n / (q : Int) == n / 9223372036854775808) = true := by
    rw [beq_iff_eq]
    by_cases hneg : n < 0
    · have a : n / (q : Int) = -1 := by
        apply Int.le_antisymm
        · have := Int.ediv_lt_of_lt_mul (a := n) (b := 0) (c := (q : Int)) (by omega) (by omega); omega
        · exact (Int.le_ediv_iff_mul_le (by omega)).2 (by omega)
      rw [a]; omega
    · have a : n / (q : Int) = 0 := Int.ediv_eq_zero_of_lt (by omega) (by omega)
      rw [a]; omega
  rw [this]
def two64 (n : Int) : Nat := (n % 18446744073709551616).toNat
theorem sig1_eq (bs : List Bool) (n : Int) (W : Nat) (h1 : 1 ≤ W) (h2 : W ≤ 63) (hn : -((2 ^ (W - 1) : Nat) : Int) ≤ n ∧ n < ((2 ^ (W - 1) : Nat) : Int)) (h : bs.length ≤ 549755813888) :
    LQ.sig1 (n, (W : Int)) (bs.length : Int) (pk bs) = some (0, ((bs.length + W : Nat) : Int), pk (bs ++ bitsOf (two64 n) W)) := by
  have hw : Go.IntKind.u64.wrap n = (two64 n : Int) := by rw [IntKind.wrap_u64]; unfold two64; omega
  have hl := lay1_eq bs (two64 n) W (by unfold two64; omega) (by omega) h
  unfold LQ.sig1 LQ.sig1.t
  dsimp only
  rw [Tr.run_br, cond_false, Tr.run_bind, bfits_eq n W h1 h2 hn, someBind, Tr.run_br, Bool.not_true, cond_false, hw, Tr.run_bind, hl]
  rfl
end Go.Proofs.Ytfblaicifdgfiaa.Dg
end

section
set_option linter.unusedVariables false
set_option linter.unusedSimpArgs false
set_option maxRecDepth 10000
namespace Go.LM
open Go
abbrev SubD : Type := Int × Int × Int × Int × Int × List Int × (Int × Int × List Int × List Int × Unit) × Unit
def subK (k wst : Int) : SubD := (k, 0, wst, 0, 0, [], (0, 0, [], [], ()), ())
end Go.LM
namespace Go.Proofs.Ytfblaicifdgfiaa.Dg
open Go.LM
theorem Check_eq (k : Int) (hk : k = 0 ∨ k = 1) (wst b W : Nat) (hb : 1 ≤ b ∧ b ≤ 65535) (hW : 1 ≤ W ∧ W ≤ 33) (hw : wst < W) : LQ.Check (subK k wst) (b : Int) (W : Int) = some 0 := by
  have d1 : decide ((b : Int) < 1) = false := decide_eq_false (by omega)
  have d2 : decide ((b : Int) > 65535) = false := decide_eq_false (by omega)
  have d3 : decide ((W : Int) < 1) = false := decide_eq_false (by omega)
  have d4 : decide ((W : Int) > 33) = false := decide_eq_false (by omega)
  have d5 : decide ((wst : Int) < 0) = false := decide_eq_false (by omega)
  have d6 : decide ((wst : Int) ≥ (W : Int)) = false := decide_eq_false (by omega)
  have d7 : decide ((0 : Int) > (b : Int)) = false := decide_eq_false (by omega)
  have hbare : ∀ k, LQ.bare (k, 0, (wst : Int), 0, 0, [], (0, 0, [], [], ()), ()) = some true := fun k => rfl
  unfold LQ.Check LQ.Check.t subK
  rcases hk with rfl | rfl
  · simp only [Tr.run_bind, Tr.run_br, Tr.run_ret, Tr.run_csl, Tr.run_csr, someBind, d1, d2, d3, d4, d5, d6, d7, cond_true, cond_false, Int.reduceBEq, hbare]
    rfl
  · simp only [Tr.run_bind, Tr.run_br, Tr.run_ret, Tr.run_csl, Tr.run_csr, someBind, d1, d2, d3, d4, d5, d6, d7, cond_true, cond_false, Int.reduceBEq, hbare]
    rfl
theorem sfits_eq (n : Int) (W : Nat) (h1 : 1 ≤ W) (h2 : W ≤ 63) (hn : -((2 ^ (W - 1) : Nat) : Int) ≤ n ∧ n < ((2 ^ (W - 1) : Nat) : Int)) : LQ.sfits n (W : Int) = some true := by
  have h := bfits_eq n W h1 h2 hn
  unfold LQ.bfits LQ.bfits.t at h
  rw [Tr.run_bind, Tr.run_br, decide_eq_true (by omega), cond_true, Tr.run_br, decide_eq_true (by omega), cond_true] at h
  unfold LQ.sfits LQ.sfits.t
  obtain ⟨b, hb1, hb2⟩ := Option.bind_eq_some_iff.1 h
  rw [hb1]; exact hb2
theorem Shift_eq (l : List Int) (wst : Nat) (hw : wst ≤ 31) (hl : l.length ≤ 1048576) (hd : ∀ n ∈ l, n / ((2 ^ wst : Nat) : Int) * ((2 ^ wst : Nat) : Int) = n ∧ -9223372036854775808 ≤ n ∧ n < 9223372036854775808) : LQ.Shift l (wst : Int) = some (l.map (fun n => n / ((2 ^ wst : Nat) : Int)), 0) := by
  unfold LQ.Shift LQ.Shift.t
  have hlo := loopO_steps (f := fun (d : Int × List Int) ↦ (LQ.Shift.l0 l (wst : Int) d.fst d.snd).run) (fun k => ((k : Int), (l.map (fun n => n / ((2 ^ wst : Nat) : Int))).take k)) (r := .inr (l.map (fun n => n / ((2 ^ wst : Nat) : Int)))) l.length (fun k hk => by
    have hm := hd (l.getD k 0) (by rw [getD_lt _ _ hk]; exact List.getElem_mem hk)
    unfold LQ.Shift.l0
    dsimp only
    rw [Tr.run_br, decide_eq_true (by simp only [Int.ofNat_eq_natCast]; omega), cond_true, Tr.run_need _ (by simp only [Int.ofNat_eq_natCast]; omega), Tr.run_need _ (by omega), Tr.run_need _ (by omega), p2_nat _ _ (by omega), Int.toNat_natCast, Tr.run_br]
    rw [hm.1, w64_id hm.2, bne_self_eq_false, cond_false, Tr.run_need _ (by omega), Tr.run_need _ (by simp only [List.length_take, List.length_map, List.length_set, List.length_replicate]; omega), Tr.run_ret, w64_id (by omega)]
    have e : (l.map (fun n => n / ((2 ^ wst : Nat) : Int))).take (k + 1) = (l.map (fun n => n / ((2 ^ wst : Nat) : Int))).take k ++ [l.getD k 0 / ((2 ^ wst : Nat) : Int)] := by
      rw [List.take_succ_eq_append_getElem (by rw [List.length_map]; exact hk), List.getElem_map, getD_lt _ _ hk]
    rw [e]; rfl) (by
    unfold LQ.Shift.l0
    dsimp only
    rw [Tr.run_br, decide_eq_false (by simp only [Int.ofNat_eq_natCast]; omega), cond_false, Tr.run_ret, List.take_of_length_le (by rw [List.length_map]; exact Nat.le_refl _)])
  have d1 : decide ((wst : Int) < 0) = false := decide_eq_false (by omega)
  have d2 : decide ((wst : Int) > 31) = false := decide_eq_false (by omega)
  rw [Tr.run_bind, Tr.run_br, d1, cond_false, Tr.run_ret, someBind, d2, Tr.run_br, cond_false, Tr.run_bind]
  refine (congrArg (fun o => Option.bind o _) (show loopO (fun (d : Int × List Int) ↦ (LQ.Shift.l0 l (wst : Int) d.fst d.snd).run) ((0 : Int), []) = _ from hlo)).trans ?_
  rfl
theorem goes_eq (k : Int) (wst W : Nat) (l : List Int) (hw : wst ≤ 31) (hW : 1 ≤ W ∧ W ≤ 33) (hl : l.length ≤ 1048576) (hd : ∀ n ∈ l, n / ((2 ^ wst : Nat) : Int) * ((2 ^ wst : Nat) : Int) = n) (hf : ∀ n ∈ l, -((2 ^ (W - 1) : Nat) : Int) ≤ n ∧ n < ((2 ^ (W - 1) : Nat) : Int)) (hc : k = 0 → ∀ n ∈ l, n = l.getD 0 0) :
    LQ.goes (subK k wst) (W : Int) l = some (l.map (fun n => n / ((2 ^ wst : Nat) : Int)), true) := by
  have hp : 2 ^ (W - 1) ≤ 2 ^ 62 := Nat.pow_le_pow_right (by decide) (by omega)
  have hS := Shift_eq l wst hw hl (fun n hn => ⟨hd n hn, by have := hf n hn; omega, by have := hf n hn; omega⟩)
  unfold LQ.goes LQ.goes.t subK
  dsimp only
  have hlo := loopO_steps (f := (fun (d : Int × Int × Int × Int × Int × Int × List Int × Int × Int × List Int × List Int) ↦ (LQ.goes.l0 (W : Int) l d.fst d.snd.fst d.snd.snd.fst d.snd.snd.snd.fst d.snd.snd.snd.snd.fst d.snd.snd.snd.snd.snd.fst d.snd.snd.snd.snd.snd.snd.fst d.snd.snd.snd.snd.snd.snd.snd.fst d.snd.snd.snd.snd.snd.snd.snd.snd.fst d.snd.snd.snd.snd.snd.snd.snd.snd.snd.fst d.snd.snd.snd.snd.snd.snd.snd.snd.snd.snd).run)) (fun i => ((i : Int), k, (0 : Int), (wst : Int), (0 : Int), (0 : Int), [], (0 : Int), (0 : Int), [], [])) (r := .inr (k, (0 : Int), (wst : Int), (0 : Int), (0 : Int), [], (0 : Int), (0 : Int), [], [])) l.length (fun i hi => by
    have hmem : l.getD i 0 ∈ l := by rw [getD_lt _ _ hi]; exact List.getElem_mem hi
    have hs := sfits_eq (l.getD i 0) W (by omega) (by omega) (hf _ hmem)
    unfold LQ.goes.l0
    dsimp only
    rw [Tr.run_br, decide_eq_true (by simp only [Int.ofNat_eq_natCast]; omega), cond_true, Tr.run_need _ (by simp only [Int.ofNat_eq_natCast]; omega), Int.toNat_natCast, Tr.run_bind, Tr.run_bind, hs, someBind, Bool.not_true, Tr.run_br, cond_false, Tr.run_br]
    cases hk : k == 0 with
    | true =>
      have h0 := hc (beq_iff_eq.1 hk) _ hmem
      rw [cond_true, Tr.run_need _ (by simp only [Int.ofNat_eq_natCast]; omega), Tr.run_ret, someBind, ← h0, bne_self_eq_false, Tr.run_br, cond_false, Tr.run_ret, w64_id (by omega)]
      rfl
    | false =>
      rw [cond_false, Tr.run_ret, someBind, Tr.run_br, cond_false, Tr.run_ret, w64_id (by omega)]
      rfl) (by
    unfold LQ.goes.l0
    dsimp only
    rw [Tr.run_br, decide_eq_false (by simp only [Int.ofNat_eq_natCast]; omega), cond_false, Tr.run_ret])
  rw [Tr.run_bind]
  refine (congrArg (fun o => Option.bind o _) (show loopO _ ((0 : Int), k, (0 : Int), (wst : Int), (0 : Int), (0 : Int), [], (0 : Int), (0 : Int), [], []) = _ from hlo)).trans ?_
  rw [someBind, Tr.run_csr, Tr.run_bind]
  dsimp only
  rw [hS]
  rfl
end Go.Proofs.Ytfblaicifdgfiaa.Dg
end

section
set_option linter.unusedVariables false
set_option linter.unusedSimpArgs false
set_option maxRecDepth 10000
namespace Go.LM
open Go
def wsBits (wst : Nat) : List Bool := bif wst == 0 then bitsOf 0 1 else bitsOf 1 1 ++ (List.replicate (wst - 1) false ++ [true])
def sgBits (W : Nat) (l : List Int) : List Bool := l.flatMap fun n => bitsOf ((n % 18446744073709551616).toNat) W
theorem sgBits_len (W : Nat) : ∀ (l : List Int), (sgBits W l).length = l.length * W
  | [] => by simp [sgBits]
  | n :: l => by
    have := sgBits_len W l
    simp only [sgBits, List.flatMap_cons, List.length_append, bitsOf_len, List.length_cons, Nat.add_mul, Nat.one_mul] at this ⊢
    omega
theorem wsBits_len (wst : Nat) : (wsBits wst).length = wst + 1 := by
  unfold wsBits
  cases h : wst == 0 with
  | true => rw [beq_iff_eq.1 h]; rfl
  | false =>
    have := beq_eq_false_iff_ne.1 h
    rw [cond_false]; simp [bitsOf_len]; omega
end Go.LM
namespace Go.Proofs.Ytfblaicifdgfiaa.Dg
open Go.LM
theorem Una1_small (bs : List Bool) (n : Nat) (hn : n < 8) (h : bs.length ≤ 549755813888) : LQ.Una1 (n : Int) (bs.length : Int) (pk bs) = some (0, ((bs.length + (n + 1) : Nat) : Int), pk (bs ++ (List.replicate n false ++ [true]))) := by
  have h0 : loopO (fun (d : Int × Int × List UInt8) ↦ (LQ.una1.l0 d.fst d.snd.fst d.snd.snd).run) ((n : Int), (bs.length : Int), pk bs) = some ((n : Int), (bs.length : Int), pk bs) := by
    refine loopO_done ?_
    unfold LQ.una1.l0
    dsimp only
    rw [Tr.run_bind, Tr.run_br, decide_eq_false (by omega), cond_false, Tr.run_ret, someBind, Tr.run_br, cond_false]; rfl
  have h1 := loopO_steps (f := fun (d : Int × Int × List UInt8) ↦ (LQ.una1.l1 d.fst d.snd.fst d.snd.snd).run) (fun k => ((n : Int) - (k : Int), ((bs.length + k : Nat) : Int), pk (bs ++ List.replicate k false))) (r := (((bs.length + n : Nat) : Int), pk (bs ++ List.replicate n false))) n (fun k hk => by
    have hl : (bs ++ List.replicate k false).length = bs.length + k := by simp
    have hb := bit1_eq (bs ++ List.replicate k false) false (by omega)
    rw [hl] at hb
    have h2 : ∀ (p : Int) (row : List UInt8), loopO (fun (d : Int × Int × List UInt8) ↦ (LQ.una1.l2 d.fst d.snd.fst d.snd.snd).run) ((n : Int) - (k : Int), p, row) = some ((n : Int) - (k : Int), p, row) := fun p row => by
      refine loopO_done ?_
      unfold LQ.una1.l2
      dsimp only
      rw [Tr.run_bind, Tr.run_br, decide_eq_false (by omega), cond_false, Tr.run_ret, someBind, Tr.run_br, cond_false]; rfl
    unfold LQ.una1.l1
    dsimp only
    rw [Tr.run_br, decide_eq_true (by omega), cond_true, Tr.run_bind, hb, someBind, Tr.run_bind]
    dsimp only
    rw [h2, someBind, Tr.run_ret, w64_id (by omega)]
    have e : (n : Int) - (k : Int) - 1 = (n : Int) - ((k + 1 : Nat) : Int) := by omega
    rw [e, List.append_assoc, show List.replicate k false ++ [false] = List.replicate (k + 1) false from (List.replicate_succ' ..).symm]
    rfl) (by
    unfold LQ.una1.l1
    dsimp only
    rw [Tr.run_br, decide_eq_false (by omega), cond_false, Tr.run_ret])
  simp only [List.replicate_zero, List.append_nil, Nat.add_zero] at h1
  have hb := bit1_eq (bs ++ List.replicate n false) true (by simp; omega)
  have hl : (bs ++ List.replicate n false).length = bs.length + n := by simp
  rw [hl] at hb
  unfold LQ.Una1 LQ.Una1.t LQ.una1 LQ.una1.t
  have d1 : decide ((n : Int) < 0) = false := decide_eq_false (by omega)
  have d2 : decide ((n : Int) > 16777216) = false := decide_eq_false (by omega)
  rw [Tr.run_br, cond_false, Tr.run_bind, Tr.run_br, d1, cond_false, Tr.run_ret, someBind, d2]
  dsimp only
  rw [Tr.run_br, cond_false, Tr.run_bind, Tr.run_bind, h0, someBind, Tr.run_bind]
  dsimp only
  rw [show ((n : Int), (bs.length : Int), pk bs) = ((n : Int) - ((0 : Nat) : Int), (bs.length : Int), pk bs) by simp, h1, someBind, Tr.run_bind]
  dsimp only
  rw [hb, List.append_assoc]
  rfl
theorem enc1_eq (k : Nat) (hk : k = 0 ∨ k = 1) (wst W : Nat) (l : List Int) (bs : List Bool) (hb : bs.length ≤ 1073741824) (hw : wst < W) (hw8 : wst ≤ 8) (hW : 1 ≤ W ∧ W ≤ 33) (hl : 1 ≤ l.length ∧ l.length ≤ 65535) (hd : ∀ n ∈ l, n / ((2 ^ wst : Nat) : Int) * ((2 ^ wst : Nat) : Int) = n) (hf : ∀ n ∈ l, -((2 ^ (W - 1) : Nat) : Int) ≤ n ∧ n < ((2 ^ (W - 1) : Nat) : Int)) (hc : k = 0 → ∀ n ∈ l, n = l.getD 0 0)
    (hf2 : ∀ n ∈ l, -((2 ^ (W - wst - 1) : Nat) : Int) ≤ n / ((2 ^ wst : Nat) : Int) ∧ n / ((2 ^ wst : Nat) : Int) < ((2 ^ (W - wst - 1) : Nat) : Int)) :
    LQ.enc1 (subK k wst, (W : Int), l) (bs.length : Int) (pk bs) = some (0, ((bs.length + (8 + wst + (bif k == 0 then 1 else l.length) * (W - wst)) : Nat) : Int), pk (bs ++ (bitsOf k 7 ++ (wsBits wst ++ sgBits (W - wst) ((l.map (fun n => n / ((2 ^ wst : Nat) : Int))).take (bif k == 0 then 1 else l.length)))))) := by
  have hck := Check_eq (k : Int) (by omega) wst l.length W hl hW hw
  have hgo := goes_eq (k : Int) wst W l (by omega) hW (by omega) hd hf (fun e => hc (by omega))
  generalize hm : l.map (fun n => n / ((2 ^ wst : Nat) : Int)) = m at hgo
  have hml : m.length = l.length := by rw [← hm, List.length_map]
  have hmf : ∀ n ∈ m, -((2 ^ (W - wst - 1) : Nat) : Int) ≤ n ∧ n < ((2 ^ (W - wst - 1) : Nat) : Int) := fun n hn => by
    rw [← hm] at hn
    obtain ⟨x, hx, rfl⟩ := List.mem_map.1 hn
    exact hf2 x hx
  generalize hcnt : (bif k == 0 then 1 else l.length) = cnt
  have hcl : cnt ≤ l.length := by
    rw [← hcnt]
    cases k == 0
    · exact Nat.le_refl _
    · exact hl.1
  have hwarm : LQ.warm (subK k wst) (l.length : Int) = some (cnt : Int) := by
    rw [← hcnt]
    unfold LQ.warm LQ.warm.t subK
    rcases hk with rfl | rfl <;> rfl
  have hp1 := put1_eq bs k 7 (by rcases hk with rfl | rfl <;> decide) (by decide) (by omega)
  have hb1 : (bs ++ bitsOf k 7).length = bs.length + 7 := by rw [List.length_append, bitsOf_len]
  unfold LQ.enc1 LQ.enc1.t
  dsimp only
  rw [Tr.run_br, cond_false, Tr.run_bind]
  refine (bindT (a := (0 : Int)) hck).trans ?_
  rw [Tr.run_br, show ((0 : Int) != 0) = false from rfl, cond_false, Tr.run_bind]
  refine (bindT (a := (m, true)) hgo).trans ?_
  have d1 : decide ((subK (k : Int) wst).1 ≥ 2) = false := decide_eq_false (by show ¬ ((k : Int) ≥ 2); omega)
  rw [Tr.run_br, Bool.not_true, cond_false, Tr.run_br, d1, cond_false, Tr.run_need _ (by show (0 : Int) ≤ (k : Int) ∧ (k : Int) < 4; omega), Tr.run_bind]
  refine (bindT (a := ((0 : Int), ((bs.length + 7 : Nat) : Int), pk (bs ++ bitsOf k 7))) (by
    rw [← hp1]
    rcases hk with rfl | rfl <;> rfl)).trans ?_
  dsimp only
  rw [Tr.run_bind]
  refine (bindT (a := (((bs.length + (8 + wst) : Nat) : Int), ((k : Int), (0 : Int), (wst : Int), (0 : Int), (0 : Int), [], (0 : Int), (0 : Int), [], []), pk (bs ++ (bitsOf k 7 ++ wsBits wst)))) (by
    rw [Tr.run_br]
    show (bif (wst : Int) == 0 then _ else _) = _
    cases hz : wst == 0 with
    | true =>
      have hz := beq_iff_eq.1 hz
      subst hz
      have hp2 := put1_eq (bs ++ bitsOf k 7) 0 1 (by decide) (by decide) (by omega)
      rw [hb1, List.append_assoc] at hp2
      rw [show (((0 : Nat) : Int) == 0) = true from rfl, cond_true, Tr.run_bind]
      refine (bindT hp2).trans ?_
      rfl
    | false =>
      have hz2 := beq_eq_false_iff_ne.1 hz
      have hp2 := put1_eq (bs ++ bitsOf k 7) 1 1 (by decide) (by decide) (by omega)
      rw [hb1] at hp2
      have hb2 : (bs ++ bitsOf k 7 ++ bitsOf 1 1).length = bs.length + 7 + 1 := by rw [List.length_append, hb1, bitsOf_len]
      have hu := Una1_small (bs ++ bitsOf k 7 ++ bitsOf 1 1) (wst - 1) (by omega) (by omega)
      rw [hb2] at hu
      rw [show ((wst : Int) == 0) = false from beq_eq_false_iff_ne.2 (by omega), cond_false, Tr.run_bind]
      refine (bindT hp2).trans ?_
      dsimp only
      rw [Tr.run_bind]
      have hw1 : w64 ((wst : Int) - 1) = ((wst - 1 : Nat) : Int) := by rw [w64_id (by omega)]; omega
      refine (bindT (a := ((0 : Int), ((bs.length + 7 + 1 + (wst - 1 + 1) : Nat) : Int), pk (bs ++ bitsOf k 7 ++ bitsOf 1 1 ++ (List.replicate (wst - 1) false ++ [true])))) (by
        rw [← hu]
        show LQ.Una1 (w64 ((wst : Int) - 1)) _ _ = _
        rw [hw1])).trans ?_
      rw [Tr.run_ret]
      have e1 : bs.length + 7 + 1 + (wst - 1 + 1) = bs.length + (8 + wst) := by omega
      have e2 : bs ++ bitsOf k 7 ++ bitsOf 1 1 ++ (List.replicate (wst - 1) false ++ [true]) = bs ++ (bitsOf k 7 ++ wsBits wst) := by
        unfold wsBits
        rw [hz, cond_false]
        simp only [List.append_assoc]
      rw [e1, e2]
      rfl)).trans ?_
  dsimp only
  rw [Tr.run_bind]
  refine (bindT (a := (cnt : Int)) hwarm).trans ?_
  rw [Tr.run_need _ (by simp only [Int.ofNat_eq_natCast]; omega), Tr.run_bind]
  generalize hB : bs ++ (bitsOf k 7 ++ wsBits wst) = B
  have hBl : B.length = bs.length + (8 + wst) := by rw [← hB]; simp only [List.length_append, bitsOf_len, wsBits_len]; omega
  have hlt : List.take ((cnt : Int) - 0).toNat (List.drop 0 m) = m.take cnt := by rw [Int.sub_zero, Int.toNat_natCast]; rfl
  have hmt : (m.take cnt).length = cnt := by rw [List.length_take]; omega
  have hWw : w64 ((W : Int) - (wst : Int)) = ((W - wst : Nat) : Int) := by rw [w64_id (by omega)]; omega
  have hbig : ∀ i, i ≤ cnt → B.length + i * (W - wst) ≤ 549755813888 := fun i hi => by
    have : i * (W - wst) ≤ 65535 * 33 := Nat.mul_le_mul (by omega) (by omega)
    omega
  have hlo := loopO_steps (f := fun (d : Int × Int × (Int × Int × Int × Int × Int × List Int × Int × Int × List Int × List Int) × List UInt8) ↦ (LQ.enc1.l0 (subK k wst, (W : Int), l) (m, true) (cnt : Int) d.fst d.snd.fst d.snd.snd.fst d.snd.snd.snd).run)
    (fun i => ((i : Int), ((B.length + i * (W - wst) : Nat) : Int), ((k : Int), (0 : Int), (wst : Int), (0 : Int), (0 : Int), [], (0 : Int), (0 : Int), [], []), pk (B ++ sgBits (W - wst) ((m.take cnt).take i)))) (r := (((B.length + cnt * (W - wst) : Nat) : Int), ((k : Int), (0 : Int), (wst : Int), (0 : Int), (0 : Int), [], (0 : Int), (0 : Int), [], []), pk (B ++ sgBits (W - wst) (m.take cnt)))) cnt (fun i hi => by
      have hBi : (B ++ sgBits (W - wst) ((m.take cnt).take i)).length = B.length + i * (W - wst) := by
        rw [List.length_append, sgBits_len, List.length_take, hmt, Nat.min_eq_left (by omega)]
      have hmem : (m.take cnt).getD i 0 ∈ m := by rw [getD_lt _ _ (by omega)]; exact List.mem_of_mem_take (List.getElem_mem _)
      have hs := sig1_eq (B ++ sgBits (W - wst) ((m.take cnt).take i)) ((m.take cnt).getD i 0) (W - wst) (by omega) (by omega) (hmf _ hmem) (by rw [hBi]; exact hbig i (by omega))
      rw [hBi] at hs
      unfold LQ.enc1.l0
      dsimp only
      rw [hlt, hmt, Tr.run_br, decide_eq_true (by simp only [Int.ofNat_eq_natCast]; omega), cond_true, Tr.run_need _ (by simp only [Int.ofNat_eq_natCast]; omega), Int.toNat_natCast, hWw, Tr.run_bind, hs, someBind, Tr.run_ret, w64_id (by omega)]
      have e1 : sgBits (W - wst) ((m.take cnt).take (i + 1)) = sgBits (W - wst) ((m.take cnt).take i) ++ bitsOf (two64 ((m.take cnt).getD i 0)) (W - wst) := by
        rw [List.take_succ_eq_append_getElem (by omega), getD_lt _ _ (by omega)]
        unfold sgBits two64
        rw [List.flatMap_append]; simp
      have e2 : B.length + (i + 1) * (W - wst) = B.length + i * (W - wst) + (W - wst) := by rw [Nat.add_mul, Nat.one_mul]; omega
      rw [e1, e2, List.append_assoc]
      rfl) (by
      unfold LQ.enc1.l0
      dsimp only
      rw [hlt, hmt, Tr.run_br, decide_eq_false (by simp only [Int.ofNat_eq_natCast]; omega), cond_false, Tr.run_ret, List.take_of_length_le (by omega)])
  refine (bindT (a := (((B.length + cnt * (W - wst) : Nat) : Int), ((k : Int), (0 : Int), (wst : Int), (0 : Int), (0 : Int), [], (0 : Int), (0 : Int), [], []), pk (B ++ sgBits (W - wst) (m.take cnt)))) (by
    rw [← hlo, Nat.zero_mul, Nat.add_zero, hBl]
    simp only [List.take_zero]
    rw [show sgBits (W - wst) [] = [] from rfl, List.append_nil]
    rfl)).trans ?_
  dsimp only
  rw [Tr.run_bind]
  have h3 : ((k : Int) == 3) = false := beq_eq_false_iff_ne.2 (by omega)
  have h2 : decide ((k : Int) ≥ 2) = false := decide_eq_false (by omega)
  rw [Tr.run_br, h3, cond_false, Tr.run_ret, someBind]
  dsimp only
  rw [Tr.run_br, h2, cond_false, Tr.run_ret, hBl]
  have e1 : bs.length + (8 + wst) + cnt * (W - wst) = bs.length + (8 + wst + cnt * (W - wst)) := by omega
  have e2 : B ++ sgBits (W - wst) (m.take cnt) = bs ++ (bitsOf k 7 ++ (wsBits wst ++ sgBits (W - wst) (m.take cnt))) := by rw [← hB]; simp only [List.append_assoc]
  rw [e1, e2]
end Go.Proofs.Ytfblaicifdgfiaa.Dg
end

section
set_option linter.unusedVariables false
set_option linter.unusedSimpArgs false
set_option maxRecDepth 10000
namespace Go.LM
open Go
def cl (W : Nat) (n : Int) : Int := if (if ((2 ^ (W - 1) : Nat) : Int) - 1 < n then ((2 ^ (W - 1) : Nat) : Int) - 1 else n) > -((2 ^ (W - 1) : Nat) : Int) then (if ((2 ^ (W - 1) : Nat) : Int) - 1 < n then ((2 ^ (W - 1) : Nat) : Int) - 1 else n) else -((2 ^ (W - 1) : Nat) : Int)
theorem cl_ok (W : Nat) (n : Int) : -((2 ^ (W - 1) : Nat) : Int) ≤ cl W n ∧ cl W n < ((2 ^ (W - 1) : Nat) : Int) := by
  unfold cl
  have : 0 < 2 ^ (W - 1) := Nat.pow_pos (by decide)
  generalize 2 ^ (W - 1) = q at this
  split <;> split <;> omega
end Go.LM
namespace Go.Proofs.Ytfblaicifdgfiaa.Dg
open Go.LM
theorem cw_nat (width : Int) : ∃ W : Nat, 1 ≤ W ∧ W ≤ 33 ∧ (if (if (33 : Int) < width then (33 : Int) else width) > (1 : Int) then if (33 : Int) < width then (33 : Int) else width else (1 : Int)) = (W : Int) := by
  refine ⟨(if (if (33 : Int) < width then (33 : Int) else width) > (1 : Int) then if (33 : Int) < width then (33 : Int) else width else (1 : Int)).toNat, ?_, ?_, ?_⟩ <;> repeat' split
  all_goals omega
theorem sv_need (W : Nat) (h1 : 1 ≤ W) (h2 : W ≤ 33) : Go.IntKind.u64.wrap (w64 ((W : Int) - 1)) = ((W - 1 : Nat) : Int) := by
  rw [w64_id (by omega), u64_id (by omega)]; omega
theorem sv_loop (l : List Int) (width : Int) (W : Nat) (h1 : 1 ≤ W) (h2 : W ≤ 33) (hl : l.length ≤ 1048576) (hW : (if (if (33 : Int) < width then (33 : Int) else width) > (1 : Int) then if (33 : Int) < width then (33 : Int) else width else (1 : Int)) = (W : Int)) :
    loopO (fun (d : Int × List Int) ↦ (LQ.SVerb.l0 l width d.fst d.snd).run) ((0 : Int), []) = some ((l.take 200).map (cl W)) := by
  have hn := sv_need W h1 h2
  have hp : 2 ^ (W - 1) ≤ 2 ^ 32 := Nat.pow_le_pow_right (by decide) (by omega)
  have e1 : w64 ((1 : Int) * p2 ((W - 1 : Nat) : Int) 64) = ((2 ^ (W - 1) : Nat) : Int) := by
    rw [p2_nat _ _ (by omega)]
    generalize 2 ^ (W - 1) = q at hp
    rw [w64_id (by omega)]; omega
  have e2 : w64 (((2 ^ (W - 1) : Nat) : Int) - 1) = ((2 ^ (W - 1) : Nat) : Int) - 1 := by
    generalize 2 ^ (W - 1) = q at hp
    rw [w64_id (by omega)]
  have e3 : w64 ((0 : Int) - ((2 ^ (W - 1) : Nat) : Int)) = -((2 ^ (W - 1) : Nat) : Int) := by
    generalize 2 ^ (W - 1) = q at hp
    rw [w64_id (by omega)]; omega
  have hlt : (l.take 200).length ≤ 200 ∧ (l.take 200).length ≤ l.length := by rw [List.length_take]; omega
  have h := loopO_steps (f := fun (d : Int × List Int) ↦ (LQ.SVerb.l0 l width d.fst d.snd).run) (fun k => ((k : Int), ((l.take 200).take k).map (cl W))) (r := (l.take 200).map (cl W)) (l.take 200).length (fun k hk => by
    have hk1 : k < l.length := by omega
    unfold LQ.SVerb.l0
    dsimp only
    rw [hW, hn, e1, e2, e3, Tr.run_bind, Tr.run_br, decide_eq_true (p := (k : Int) < Int.ofNat l.length) (by simp only [Int.ofNat_eq_natCast]; omega), cond_true, Tr.run_ret, someBind, decide_eq_true (p := (k : Int) < 200) (by omega), Tr.run_br, cond_true, Tr.run_need _ (by simp only [Int.ofNat_eq_natCast]; omega), Int.toNat_natCast]
    rw [Tr.run_need _ (by simp only [List.length_map, List.length_take, List.length_set, List.length_replicate] at hlt ⊢; omega), Tr.run_ret, w64_id (by omega)]
    have e : ((l.take 200).take (k + 1)).map (cl W) = ((l.take 200).take k).map (cl W) ++ [cl W (l.getD k 0)] := by
      rw [List.take_succ_eq_append_getElem hk, List.map_append, List.getElem_take, getD_lt _ _ hk1]
      rfl
    rw [e]; rfl) (by
    unfold LQ.SVerb.l0
    dsimp only
    rw [Tr.run_bind, Tr.run_br]
    have : (bif decide ((((l.take 200).length : Nat) : Int) < Int.ofNat l.length) then (Tr.ret (decide ((((l.take 200).length : Nat) : Int) < (200 : Int)), ((l.take 200).take (l.take 200).length).map (cl W))).run else (Tr.ret (false, ((l.take 200).take (l.take 200).length).map (cl W))).run) = some (false, (l.take 200).map (cl W)) := by
      rw [List.take_of_length_le (Nat.le_refl _)]
      by_cases hlen : l.length ≤ 200
      · rw [decide_eq_false (p := (((l.take 200).length : Nat) : Int) < Int.ofNat l.length) (by rw [List.length_take]; simp only [Int.ofNat_eq_natCast]; omega), cond_false, Tr.run_ret]
      · rw [decide_eq_true (p := (((l.take 200).length : Nat) : Int) < Int.ofNat l.length) (by rw [List.length_take]; simp only [Int.ofNat_eq_natCast]; omega), cond_true, Tr.run_ret, decide_eq_false (by rw [List.length_take]; omega)]
    rw [this, someBind, Tr.run_br, cond_false, Tr.run_ret])
  exact h
theorem len1_eq (n : Int) (row : List UInt8) : LQ.len1 n row = some (n, n, row) := by
  unfold LQ.len1 LQ.len1.t
  rw [Tr.run_br, cond_false, Tr.run_bind]
  refine (bindT (a := (n, n, row)) rfl).trans ?_
  dsimp only
  rw [Tr.run_need _ ⟨rfl, rfl, trivial⟩]; rfl
theorem awk_true : LQ.awk = some true := rfl
theorem SubframeVerbatim_law (l : List Int) (width : Int) (hl : l.length ≤ 1048576) : LQ.SVerb l width = some true := by
  obtain ⟨W, h1, h2, hW⟩ := cw_nat width
  unfold LQ.SVerb LQ.SVerb.t
  rw [hW, Tr.run_need _ (by rw [sv_need W h1 h2]; omega), Tr.run_bind]
  refine (bindT (sv_loop l width W h1 h2 hl hW)).trans ?_
  generalize hm : (l.take 200).map (cl W) = m
  have hml : m.length ≤ 200 := by rw [← hm, List.length_map, List.length_take]; omega
  have hmf : ∀ n ∈ m, -((2 ^ (W - 1) : Nat) : Int) ≤ n ∧ n < ((2 ^ (W - 1) : Nat) : Int) := fun n hn => by
    rw [← hm] at hn
    obtain ⟨x, hx, rfl⟩ := List.mem_map.1 hn
    exact cl_ok W x
  rw [Tr.run_br]
  by_cases h0 : m.length = 0
  · rw [h0, show (Int.ofNat 0 == 0) = true from rfl, cond_true, Tr.run_bind, awk_true]; rfl
  · rw [show (Int.ofNat m.length == 0) = false from beq_eq_false_iff_ne.2 (by simp only [Int.ofNat_eq_natCast]; omega), cond_false, Tr.run_bind]
    refine (bindT (a := ((0 : Int), ([] : List UInt8))) rfl).trans ?_
    have he := enc1_eq 1 (.inr rfl) 0 W m [] (by simp) (by omega) (by decide) ⟨h1, h2⟩ ⟨by omega, by omega⟩ (fun n _ => by simp) hmf (fun e => by cases e) (fun n hn => by
      have := hmf n hn
      simp only [Nat.sub_zero, Nat.pow_zero]
      rw [show n / ((1 : Nat) : Int) = n by simp]
      exact this)
    have hc : (bif ((1 : Nat) == 0) then 1 else m.length) = m.length := rfl
    rw [hc] at he
    rw [Tr.run_br, cond_false, Tr.run_bind]
    refine (bindT he).trans ?_
    rw [Tr.run_bind]
    refine (bindT (a := true) ?_).trans rfl
    rw [Tr.run_br, show ((0 : Int) == 0) = true from rfl, cond_true, Tr.run_bind, len1_eq, someBind]
    dsimp only
    rw [Tr.run_need _ ⟨rfl, rfl, trivial⟩, Tr.run_br]
    have hmul : W * m.length ≤ 33 * 200 := Nat.mul_le_mul h2 hml
    have hmul2 : (W : Int) * Int.ofNat m.length = ((W * m.length : Nat) : Int) := rfl
    have hmul3 : m.length * (W - 0) = W * m.length := by rw [Nat.sub_zero, Nat.mul_comm]
    have hb : (((([] : List Bool).length + (8 + 0 + m.length * (W - 0)) : Nat) : Int) == w64 ((8 : Int) + w64 ((W : Int) * Int.ofNat m.length))) = true := by
      rw [beq_iff_eq, hmul2, hmul3]
      generalize W * m.length = q at hmul
      rw [w64_id (x := (q : Int)) (by omega), w64_id (by omega)]
      simp only [List.length_nil]
      omega
    rw [hb, cond_true, Tr.run_bind, awk_true]; rfl
end Go.Proofs.Ytfblaicifdgfiaa.Dg
end

