/- Sgb: SgG SgH SgI SgJ SgK. -/
import Derived.Test.YtfblaicifdgfiaaSga
import Derived.Test.YtfblaicifdgfiaaSfH
import Derived.Test.YtfblaicifdgfiaaSfI
section
set_option linter.unusedVariables false
set_option linter.unusedSimpArgs false
set_option maxRecDepth 10000
namespace Go.LM
open Go
theorem ofInt_nat (y : Nat) : BitVec.ofInt 64 (y : Int) = BitVec.ofNat 64 y := by apply BitVec.eq_of_toNat_eq; simp [BitVec.toNat_ofInt]
theorem xor_ones (y : Nat) (hy : y < 18446744073709551616) (m : Int) (hm : BitVec.ofInt 64 m = BitVec.allOnes 64) : (BitVec.ofInt 64 (y : Int) ^^^ BitVec.ofInt 64 m).toNat = 18446744073709551615 - y := by
  rw [hm, BitVec.xor_allOnes, ofInt_nat, BitVec.toNat_not, BitVec.toNat_ofNat, Nat.mod_eq_of_lt (by omega)]
theorem xor_nil (y : Nat) (hy : y < 18446744073709551616) : (BitVec.ofInt 64 (y : Int) ^^^ BitVec.ofInt 64 0).toNat = y := by
  rw [show BitVec.ofInt 64 0 = 0#64 by decide, BitVec.xor_zero, ofInt_nat, BitVec.toNat_ofNat, Nat.mod_eq_of_lt (by omega)]
def zz (n : Int) : Nat := if n < 0 then (-2 * n - 1).toNat else (2 * n).toNat
theorem zz_lt (n : Int) (h : -9223372036854775808 ≤ n ∧ n < 9223372036854775808) : zz n < 18446744073709551616 := by unfold zz; split <;> omega
theorem zz_fold (n : Int) (h : -9223372036854775808 ≤ n ∧ n < 9223372036854775808) : Go.IntKind.u64.wrap (bitsI Go.BinOp.xor Go.IntKind.u64 (Go.IntKind.u64.wrap (Go.IntKind.u64.wrap n * (2 : Int))) (Go.IntKind.u64.wrap (n / (9223372036854775808 : Int)))) = (zz n : Int) := by
  have hz := zz_lt n h
  by_cases hn : n < 0
  · have e1 : Go.IntKind.u64.wrap (Go.IntKind.u64.wrap n * 2) = ((18446744073709551615 - zz n : Nat) : Int) := by
      unfold zz; rw [if_pos hn, IntKind.wrap_u64, IntKind.wrap_u64]; omega
    have e2 : Go.IntKind.u64.wrap (n / 9223372036854775808) = 18446744073709551615 := by rw [IntKind.wrap_u64]; omega
    rw [e1, e2]
    have : bitsI Go.BinOp.xor Go.IntKind.u64 ((18446744073709551615 - zz n : Nat) : Int) 18446744073709551615 = ((18446744073709551615 - (18446744073709551615 - zz n) : Nat) : Int) := congrArg (fun x : Nat => (x : Int)) (xor_ones (18446744073709551615 - zz n) (by omega) 18446744073709551615 (by decide))
    rw [this, u64_id (by omega)]; omega
  · have e1 : Go.IntKind.u64.wrap (Go.IntKind.u64.wrap n * 2) = ((zz n : Nat) : Int) := by
      unfold zz; rw [if_neg hn, IntKind.wrap_u64, IntKind.wrap_u64]; omega
    have e2 : Go.IntKind.u64.wrap (n / 9223372036854775808) = 0 := by rw [IntKind.wrap_u64]; omega
    rw [e1, e2]
    have : bitsI Go.BinOp.xor Go.IntKind.u64 ((zz n : Nat) : Int) 0 = ((zz n : Nat) : Int) := congrArg (fun x : Nat => (x : Int)) (xor_nil (zz n) hz)
    rw [this, u64_id (by omega)]
theorem zz_back (n : Int) (h : -9223372036854775808 ≤ n ∧ n < 9223372036854775808) : w64 (bitsI Go.BinOp.xor Go.IntKind.i64 (w64 (((zz n : Nat) : Int) / (2 : Int))) (w64 ((0 : Int) - w64 (Go.IntKind.u64.wrap (bitsI Go.BinOp.and Go.IntKind.u64 ((zz n : Nat) : Int) (1 : Int)))))) = n := by
  have hz := zz_lt n h
  rw [and1 _ hz]
  by_cases hn : n < 0
  · have e0 : zz n = (-2 * n - 1).toNat := by unfold zz; rw [if_pos hn]
    have e1 : ((zz n : Nat) : Int) / 2 = (((-n - 1).toNat : Nat) : Int) := by omega
    have e2 : ((zz n % 2 : Nat) : Int) = 1 := by omega
    rw [e1, e2, w64_id (x := (((-n - 1).toNat : Nat) : Int)) (by omega), w64_id (x := (1 : Int)) (by omega), w64_id (x := (0 : Int) - 1) (by omega)]
    have : bitsI Go.BinOp.xor Go.IntKind.i64 (((-n - 1).toNat : Nat) : Int) (0 - 1) = ((18446744073709551615 - (-n - 1).toNat : Nat) : Int) := congrArg (fun x : Nat => (x : Int)) (xor_ones (-n - 1).toNat (by omega) (0 - 1) (by decide))
    rw [this]
    show IntKind.i64.wrap _ = _
    rw [IntKind.wrap_i64]; omega
  · have e0 : zz n = (2 * n).toNat := by unfold zz; rw [if_neg hn]
    have e1 : ((zz n : Nat) : Int) / 2 = ((n.toNat : Nat) : Int) := by omega
    have e2 : ((zz n % 2 : Nat) : Int) = 0 := by omega
    rw [e1, e2, w64_id (x := ((n.toNat : Nat) : Int)) (by omega), w64_id (x := (0 : Int)) (by omega), w64_id (x := (0 : Int) - 0) (by omega)]
    have : bitsI Go.BinOp.xor Go.IntKind.i64 ((n.toNat : Nat) : Int) (0 - 0) = ((n.toNat : Nat) : Int) := congrArg (fun x : Nat => (x : Int)) (xor_nil n.toNat (by omega))
    rw [this, w64_id (by omega)]; omega
theorem or_low (q low k : Nat) (hl : low < 2 ^ k) (h : 2 ^ k * q + low < 18446744073709551616) : Go.IntKind.u64.wrap (bitsI Go.BinOp.or Go.IntKind.u64 (Go.IntKind.u64.wrap (Go.IntKind.u64.wrap (q : Int) * ((2 ^ k : Nat) : Int))) (low : Int)) = ((2 ^ k * q + low : Nat) : Int) := by
  have hp : 0 < 2 ^ k := Nat.pow_pos (by decide)
  have hq : q ≤ 2 ^ k * q := Nat.le_mul_of_pos_left q hp
  have e0 : Go.IntKind.u64.wrap (Go.IntKind.u64.wrap (q : Int) * ((2 ^ k : Nat) : Int)) = ((2 ^ k * q : Nat) : Int) := by
    rw [u64_id (x := (q : Int)) (by omega)]
    have : (q : Int) * ((2 ^ k : Nat) : Int) = ((2 ^ k * q : Nat) : Int) := by rw [← Int.natCast_mul, Nat.mul_comm]
    rw [this, u64_id (by omega)]
  have key : (BitVec.ofNat 64 (2 ^ k * q) ||| BitVec.ofNat 64 low).toNat = 2 ^ k * q + low := by
    rw [BitVec.toNat_or, BitVec.toNat_ofNat, BitVec.toNat_ofNat, Nat.mod_eq_of_lt (by omega), Nat.mod_eq_of_lt (by omega)]
    exact (Nat.two_pow_add_eq_or_of_lt hl q).symm
  rw [← ofInt_nat, ← ofInt_nat] at key
  have : bitsI Go.BinOp.or Go.IntKind.u64 ((2 ^ k * q : Nat) : Int) (low : Int) = ((2 ^ k * q + low : Nat) : Int) := congrArg (fun x : Nat => (x : Int)) key
  rw [e0, this, u64_id (by omega)]
def unaB (n : Nat) : List Bool := List.replicate n false ++ [true]
theorem unaB_len (n : Nat) : (unaB n).length = n + 1 := by simp [unaB]
def riB (n : Int) (k : Nat) : List Bool := unaB (zz n / 2 ^ k) ++ bitsOf (zz n) k
theorem rep_add (a b : Nat) : List.replicate a false ++ List.replicate b false = List.replicate (a + b) false := List.replicate_append_replicate
theorem pk_zero8 (bs : List Bool) (h : bs.length % 8 = 0) : pk (bs ++ List.replicate 8 false) = pk bs ++ [0] := by
  have e : (pk (bs ++ List.replicate 8 false)).length = (pk bs ++ [0]).length := by rw [pk_len, List.length_append, List.length_append, pk_len]; simp; omega
  apply List.ext_getElem e
  intro i h1 h2
  rw [pk_len] at h1
  have hget : (pk (bs ++ List.replicate 8 false))[i]'(by rw [pk_len]; exact h1) = UInt8.ofNat (byteB (bs ++ List.replicate 8 false) i) := by simp [pk]
  rw [hget]
  by_cases hi : i < bs.length / 8
  · rw [List.getElem_append_left (by rw [pk_len]; omega)]
    have : (pk bs)[i]'(by rw [pk_len]; omega) = UInt8.ofNat (byteB bs i) := by simp [pk]
    rw [this]
    congr 1
    unfold byteB
    apply val8_congr
    intro k hk
    rw [List.getD_eq_getElem?_getD, List.getElem?_append_left (by omega), List.getD_eq_getElem?_getD]
  · have hi2 : i = bs.length / 8 := by simp only [List.length_append, List.length_replicate] at h1; omega
    rw [List.getElem_append_right (by rw [pk_len]; omega)]
    have h0 : byteB (bs ++ List.replicate 8 false) i = 0 := by
      refine (val8_congr (g := fun _ => false) fun k hk => ?_).trans rfl
      rw [List.getD_eq_getElem?_getD, List.getElem?_append_right (by omega), List.getElem?_replicate]
      split <;> rfl
    rw [h0]
    simp
end Go.LM
namespace Go.Proofs.Ytfblaicifdgfiaa.Dg
open Go.LM
theorem fold_eq (n : Int) (h : -9223372036854775808 ≤ n ∧ n < 9223372036854775808) : LQ.fold n = some ((zz n : Nat) : Int) := by
  unfold LQ.fold LQ.fold.t
  rw [Tr.run_ret, zz_fold n h]
theorem skip8 (g : Int × Int × List UInt8 → Option (Int × Int × List UInt8 ⊕ Int × Int × List UInt8)) (c : Nat)
    (hg : ∀ (n : Nat) (bs : List Bool), bs.length + n ≤ 549755813888 → g ((n : Int), (bs.length : Int), pk bs) = some (if c ≤ n ∧ bs.length % 8 = 0 then .inl (((n - 8 : Nat) : Int), ((bs.length + 8 : Nat) : Int), pk bs ++ [0]) else .inr ((n : Int), (bs.length : Int), pk bs))) (hc : 8 ≤ c) :
    ∀ (n : Nat) (bs : List Bool), bs.length + n ≤ 549755813888 → ∃ m, m + (c - 8) ≤ n + (c - 8) ∧ (n ≠ 0 → c = 9 → m < n) ∧ loopO g ((n : Int), (bs.length : Int), pk bs) = some (((n - m : Nat) : Int), ((bs.length + m : Nat) : Int), pk (bs ++ List.replicate m false)) := by
  intro n
  induction n using Nat.strongRecOn with
  | ind n ih =>
    intro bs hb
    by_cases h : c ≤ n ∧ bs.length % 8 = 0
    · obtain ⟨m, hm, hm2, hl⟩ := ih (n - 8) (by omega) (bs ++ List.replicate 8 false) (by simp; omega)
      refine ⟨8 + m, by omega, by omega, ?_⟩
      have hs := hg n bs hb
      rw [if_pos h] at hs
      rw [loopO_next hs]
      rw [pk_zero8 bs h.2, List.length_append, List.length_replicate] at hl
      rw [hl, List.append_assoc, rep_add, show n - 8 - m = n - (8 + m) by omega, show bs.length + 8 + m = bs.length + (8 + m) by omega]
    · refine ⟨0, by omega, by omega, ?_⟩
      have hs := hg n bs hb
      rw [if_neg h] at hs
      rw [loopO_done hs, List.replicate_zero, List.append_nil]
      rfl
theorem on1_8 (bs : List Bool) (row : List UInt8) (h : bs.length ≤ 549755813888) : LQ.on1 8 (bs.length : Int) row = some (((bs.length + 8 : Nat) : Int), row) := by
  unfold LQ.on1 LQ.on1.t
  rw [Tr.run_ret, w64_id (by omega)]; rfl
theorem una1_eq (n : Nat) (bs : List Bool) (hb : bs.length + n ≤ 549755813887) : LQ.una1 (n : Int) (bs.length : Int) (pk bs) = some (((bs.length + (n + 1) : Nat) : Int), pk (bs ++ unaB n)) := by
  have hat : ∀ (bs : List Bool), LQ.at1 (bs.length : Int) (pk bs) = some ((bs.length : Int), (bs.length : Int), pk bs) := fun bs => rfl
  have hmod : ∀ (bs : List Bool), ((bs.length : Int).tmod 8 == 0) = decide (bs.length % 8 = 0) := fun bs => by
    have : (bs.length : Int).tmod 8 = ((bs.length % 8 : Nat) : Int) := rfl
    rw [this, Bool.eq_iff_iff, beq_iff_eq, decide_eq_true_eq]; omega
  have g0 : ∀ (n : Nat) (bs : List Bool), bs.length + n ≤ 549755813888 → (fun (d : Int × Int × List UInt8) ↦ (LQ.una1.l0 d.fst d.snd.fst d.snd.snd).run) ((n : Int), (bs.length : Int), pk bs) = some (if 8 ≤ n ∧ bs.length % 8 = 0 then .inl (((n - 8 : Nat) : Int), ((bs.length + 8 : Nat) : Int), pk bs ++ [0]) else .inr ((n : Int), (bs.length : Int), pk bs)) := fun n bs hb => by
    unfold LQ.una1.l0
    dsimp only
    rw [Tr.run_bind, Tr.run_br]
    by_cases h8 : 8 ≤ n
    · rw [decide_eq_true (p := (n : Int) ≥ 8) (by omega), cond_true, Tr.run_bind, hat, someBind]
      dsimp only
      rw [Tr.run_need _ ⟨rfl, rfl, trivial⟩, Tr.run_ret, someBind, hmod, Tr.run_br]
      by_cases hm : bs.length % 8 = 0
      · rw [decide_eq_true hm, cond_true, if_pos ⟨h8, hm⟩, Tr.run_need _ (by rw [pk_len]; omega), Tr.run_bind]
        dsimp only
        rw [on1_8 bs _ (by omega), someBind, Tr.run_ret, w64_id (by omega)]
        rw [show (n : Int) - 8 = ((n - 8 : Nat) : Int) by omega]
        rfl
      · rw [decide_eq_false hm, cond_false, if_neg (fun e => hm e.2), Tr.run_ret]
    · rw [decide_eq_false (p := (n : Int) ≥ 8) (by omega), cond_false, Tr.run_ret, someBind, Tr.run_br, cond_false, if_neg (fun e => h8 e.1), Tr.run_ret]
  have g2 : ∀ (n : Nat) (bs : List Bool), bs.length + n ≤ 549755813888 → (fun (d : Int × Int × List UInt8) ↦ (LQ.una1.l2 d.fst d.snd.fst d.snd.snd).run) ((n : Int), (bs.length : Int), pk bs) = some (if 9 ≤ n ∧ bs.length % 8 = 0 then .inl (((n - 8 : Nat) : Int), ((bs.length + 8 : Nat) : Int), pk bs ++ [0]) else .inr ((n : Int), (bs.length : Int), pk bs)) := fun n bs hb => by
    unfold LQ.una1.l2
    dsimp only
    rw [Tr.run_bind, Tr.run_br]
    by_cases h8 : 9 ≤ n
    · rw [decide_eq_true (p := (n : Int) > 8) (by omega), cond_true, Tr.run_bind, hat, someBind]
      dsimp only
      rw [Tr.run_need _ ⟨rfl, rfl, trivial⟩, Tr.run_ret, someBind, hmod, Tr.run_br]
      by_cases hm : bs.length % 8 = 0
      · rw [decide_eq_true hm, cond_true, if_pos ⟨h8, hm⟩, Tr.run_need _ (by rw [pk_len]; omega), Tr.run_bind]
        dsimp only
        rw [on1_8 bs _ (by omega), someBind, Tr.run_ret, w64_id (by omega)]
        rw [show (n : Int) - 8 = ((n - 8 : Nat) : Int) by omega]
        rfl
      · rw [decide_eq_false hm, cond_false, if_neg (fun e => hm e.2), Tr.run_ret]
    · rw [decide_eq_false (p := (n : Int) > 8) (by omega), cond_false, Tr.run_ret, someBind, Tr.run_br, cond_false, if_neg (fun e => h8 e.1), Tr.run_ret]
  have l1 : ∀ (n : Nat) (bs : List Bool), bs.length + n ≤ 549755813887 → loopO (fun (d : Int × Int × List UInt8) ↦ (LQ.una1.l1 d.fst d.snd.fst d.snd.snd).run) ((n : Int), (bs.length : Int), pk bs) = some (((bs.length + n : Nat) : Int), pk (bs ++ List.replicate n false)) := by
    intro n
    induction n using Nat.strongRecOn with
    | ind n ih =>
      intro bs hb
      by_cases h0 : n = 0
      · subst h0
        refine (loopO_done (r := ((bs.length : Int), pk bs)) ?_).trans ?_
        · unfold LQ.una1.l1
          dsimp only
          rw [Tr.run_br, decide_eq_false (by omega), cond_false, Tr.run_ret]
        · rw [List.replicate_zero, List.append_nil]; rfl
      · have hb1 := bit1_eq bs false (by omega)
        have hl1 : (bs ++ [false]).length = bs.length + 1 := by simp
        obtain ⟨m, hm, hm2, hl⟩ := skip8 (fun (d : Int × Int × List UInt8) ↦ (LQ.una1.l2 d.fst d.snd.fst d.snd.snd).run) 9 g2 (by decide) n (bs ++ [false]) (by rw [hl1]; omega)
        have hm3 := hm2 h0 rfl
        rw [hl1] at hl
        have step : (fun (d : Int × Int × List UInt8) ↦ (LQ.una1.l1 d.fst d.snd.fst d.snd.snd).run) ((n : Int), (bs.length : Int), pk bs) = some (.inl (((n - m - 1 : Nat) : Int), ((bs.length + 1 + m : Nat) : Int), pk (bs ++ [false] ++ List.replicate m false))) := by
          unfold LQ.una1.l1
          dsimp only
          rw [Tr.run_br, decide_eq_true (by omega), cond_true, Tr.run_bind, hb1, someBind, Tr.run_bind]
          refine (bindT hl).trans ?_
          rw [Tr.run_ret, w64_id (by omega), show ((n - m : Nat) : Int) - 1 = ((n - m - 1 : Nat) : Int) by omega]
        rw [loopO_next step]
        have := ih (n - m - 1) (by omega) (bs ++ [false] ++ List.replicate m false) (by simp; omega)
        have e1 : (bs ++ [false] ++ List.replicate m false).length = bs.length + 1 + m := by simp; omega
        rw [e1] at this
        rw [this]
        have e2 : bs ++ [false] ++ List.replicate m false ++ List.replicate (n - m - 1) false = bs ++ List.replicate n false := by
          rw [show [false] = List.replicate 1 false from rfl, List.append_assoc, List.append_assoc, rep_add, rep_add]
          congr 2; omega
        rw [e2]
        have e3 : bs.length + 1 + m + (n - m - 1) = bs.length + n := by omega
        rw [e3]
  obtain ⟨m, hm, _, hl⟩ := skip8 (fun (d : Int × Int × List UInt8) ↦ (LQ.una1.l0 d.fst d.snd.fst d.snd.snd).run) 8 g0 (by decide) n bs (by omega)
  unfold LQ.una1 LQ.una1.t
  rw [Tr.run_bind]
  refine (bindT hl).trans ?_
  dsimp only
  rw [Tr.run_bind]
  have h1 := l1 (n - m) (bs ++ List.replicate m false) (by simp; omega)
  have e1 : (bs ++ List.replicate m false).length = bs.length + m := by simp
  rw [e1, List.append_assoc, rep_add, show m + (n - m) = n by omega, show bs.length + m + (n - m) = bs.length + n by omega] at h1
  refine (bindT h1).trans ?_
  dsimp only
  rw [Tr.run_bind]
  have h2 := bit1_eq (bs ++ List.replicate n false) true (by simp; omega)
  have e2 : (bs ++ List.replicate n false).length = bs.length + n := by simp
  rw [e2] at h2
  rw [h2, List.append_assoc]
  rfl
theorem Ric1_eq (n : Int) (k : Nat) (bs : List Bool) (h : -9223372036854775808 ≤ n ∧ n < 9223372036854775808) (hk : k ≤ 30) (hz : zz n / 2 ^ k ≤ 16777216) (hb : bs.length ≤ 274877906944) : LQ.Ric1 (n, (k : Int)) (bs.length : Int) (pk bs) = some (0, ((bs.length + (riB n k).length : Nat) : Int), pk (bs ++ riB n k)) := by
  unfold LQ.Ric1 LQ.Ric1.t
  have d1 : decide ((k : Int) < 0) = false := decide_eq_false (by omega)
  have d2 : decide ((k : Int) > 30) = false := decide_eq_false (by omega)
  have e1 : ((zz n : Nat) : Int) / ((2 ^ k : Nat) : Int) = ((zz n / 2 ^ k : Nat) : Int) := rfl
  have d3 : decide (((zz n / 2 ^ k : Nat) : Int) > 16777216) = false := decide_eq_false (by generalize zz n / 2 ^ k = q at hz; omega)
  have hf := fold_eq n h
  dsimp only
  rw [Tr.run_br, cond_false, Tr.run_bind]
  refine (bindT (a := (false, (bs.length : Int), pk bs)) (by
    rw [Tr.run_br, d1, cond_false, Tr.run_br, d2, cond_false, Tr.run_bind, hf, someBind, Tr.run_need _ (by omega), Tr.run_ret, p2_nat _ _ (by omega), e1, d3])).trans ?_
  dsimp only
  rw [Tr.run_br, cond_false, Tr.run_bind, hf, someBind, Tr.run_need _ (by omega), p2_nat _ _ (by omega), e1, Tr.run_bind]
  have hu := una1_eq (zz n / 2 ^ k) bs (by generalize zz n / 2 ^ k = q at hz; omega)
  have hw : w64 ((zz n / 2 ^ k : Nat) : Int) = ((zz n / 2 ^ k : Nat) : Int) := w64_id (by generalize zz n / 2 ^ k = q at hz; omega)
  rw [hw, hu, someBind, Tr.run_bind]
  dsimp only
  have hL : (bs ++ unaB (zz n / 2 ^ k)).length = bs.length + (zz n / 2 ^ k + 1) := by rw [List.length_append, unaB_len]
  have hl := lay1_eq (bs ++ unaB (zz n / 2 ^ k)) (zz n) k (zz_lt n h) (by omega) (by rw [hL]; generalize zz n / 2 ^ k = q at hz; omega)
  rw [hL] at hl
  rw [hl, someBind, Tr.run_ret]
  have e2 : (riB n k).length = zz n / 2 ^ k + 1 + k := by unfold riB; rw [List.length_append, unaB_len, bitsOf_len]
  rw [e2, List.append_assoc, Nat.add_assoc bs.length (zz n / 2 ^ k + 1) k]
  rfl
theorem UnaryR_eq (all : List Bool) (a n : Nat) (h : Bat all a (unaB n)) (hn : n ≤ 16777216) (hb : all.length ≤ 1099511627776) : LQ.UnaryR (a : Int) (pk all) = some (((n : Int), 0), ((a + (n + 1) : Nat) : Int), pk all) := by
  have hle := h.le
  rw [unaB_len] at hle
  have hat : LQ.atR (a : Int) (pk all) = some ((a : Int), (a : Int), pk all) := rfl
  have hbit : ∀ i, i ≤ n → all.getD (a + i) false = decide (i = n) := fun i hi => by
    rw [h.getD i (by rw [unaB_len]; omega)]
    unfold unaB
    rw [List.getD_eq_getElem?_getD]
    by_cases hin : i = n
    · rw [List.getElem?_append_right (by simp; omega), decide_eq_true hin]; simp [hin]
    · rw [List.getElem?_append_left (by simp; omega), List.getElem?_replicate, if_pos (by omega), decide_eq_false hin]; rfl
  unfold LQ.UnaryR LQ.UnaryR.t
  rw [Tr.run_br, cond_false, Tr.run_bind, Left_eq all a (by omega) hb, someBind]
  dsimp only
  rw [Tr.run_need _ ⟨rfl, rfl, trivial⟩, Tr.run_bind]
  generalize hL : (8 * ((all.length + 7) / 8) - a) = L
  have hLn : n < L := by omega
  have head : ∀ k, k ≤ n → (Tr.br (decide ((k : Int) < (L : Int))) (Tr.bind (Int × Int × List UInt8) (LQ.atR (a : Int) (pk all)) ((0 : Int), (0 : Int), []) fun (r1 : Int × Int × List UInt8) ↦ Tr.need (r1.snd.fst = (a : Int) ∧ r1.snd.snd = pk all ∧ True) (Tr.bind (Int × Int × List UInt8) (LQ.peek (w64 (r1.fst + (k : Int))) (a : Int) (pk all)) ((0 : Int), (0 : Int), []) fun (r2 : Int × Int × List UInt8) ↦ Tr.need (r2.snd.fst = (a : Int) ∧ r2.snd.snd = pk all ∧ True) (Tr.ret (r2.fst == (0 : Int), (a : Int), pk all)))) (Tr.ret (false, (a : Int), pk all))).run = some (decide (k ≠ n), (a : Int), pk all) := fun k hk => by
    have hp := peek_eq all (a + k) (by omega) hb (a : Int)
    have hw : w64 ((a : Int) + (k : Int)) = ((a + k : Nat) : Int) := by rw [w64_id (by omega)]; omega
    rw [Tr.run_br, decide_eq_true (by omega), cond_true, Tr.run_bind, hat, someBind]
    dsimp only
    rw [Tr.run_need _ ⟨rfl, rfl, trivial⟩, Tr.run_bind, hw, hp, someBind]
    dsimp only
    rw [Tr.run_need _ ⟨rfl, rfl, trivial⟩, Tr.run_ret, hbit k hk]
    by_cases e : k = n
    · rw [decide_eq_true e, decide_eq_false (p := k ≠ n) (fun x => x e)]; rfl
    · rw [decide_eq_false e, decide_eq_true (p := k ≠ n) e]; rfl
  have hlo := loopO_steps (f := fun (d : Int × Int × List UInt8) ↦ (LQ.UnaryR.l0 ((L : Int), (a : Int), pk all) d.fst d.snd.fst d.snd.snd).run) (fun k => ((k : Int), (a : Int), pk all)) (r := .inr ((n : Int), (a : Int), pk all)) n (fun k hk => by
    unfold LQ.UnaryR.l0
    dsimp only
    rw [Tr.run_bind, head k (by omega), someBind]
    dsimp only
    rw [decide_eq_true (p := k ≠ n) (by omega), Tr.run_br, cond_true, w64_id (by omega), decide_eq_false (p := (k : Int) + 1 > 16777216) (by omega), Tr.run_br, cond_false, Tr.run_ret]
    rfl) (by
    unfold LQ.UnaryR.l0
    dsimp only
    rw [Tr.run_bind, head n (by omega), someBind]
    dsimp only
    rw [decide_eq_false (p := n ≠ n) (fun x => x rfl), Tr.run_br, cond_false, Tr.run_ret])
  refine (bindT hlo).trans ?_
  rw [Tr.run_csr]
  dsimp only
  rw [Tr.run_br, show ((n : Int) == (L : Int)) = false from beq_eq_false_iff_ne.2 (by omega), cond_false, Tr.run_bind]
  have hon : LQ.onR (w64 ((n : Int) + 1)) (a : Int) (pk all) = some (((a + (n + 1) : Nat) : Int), pk all) := by
    unfold LQ.onR LQ.onR.t
    rw [Tr.run_ret, w64_id (x := (n : Int) + 1) (by omega), w64_id (by omega)]; rfl
  rw [hon]
  rfl
theorem RiceR_eq (all : List Bool) (a k : Nat) (n : Int) (h : Bat all a (riB n k)) (hn : -9223372036854775808 ≤ n ∧ n < 9223372036854775808) (hk : k ≤ 30) (hz : zz n / 2 ^ k ≤ 16777216) (hb : all.length ≤ 1099511627776) : LQ.RiceR (k : Int) (a : Int) (pk all) = some ((n, 0), ((a + (riB n k).length : Nat) : Int), pk all) := by
  have hu := UnaryR_eq all a (zz n / 2 ^ k) h.left hz hb
  have hr := h.right
  rw [unaB_len] at hr
  have hg := Get_eq all _ _ k hr (bitsOf_len _ _) (by omega) hb
  rw [valB_bitsOf] at hg
  have e2 : (riB n k).length = zz n / 2 ^ k + 1 + k := by unfold riB; rw [List.length_append, unaB_len, bitsOf_len]
  unfold LQ.RiceR LQ.RiceR.t
  have d1 : decide ((k : Int) < 0) = false := decide_eq_false (by omega)
  have d2 : decide ((k : Int) > 30) = false := decide_eq_false (by omega)
  rw [Tr.run_br, cond_false, Tr.run_bind, Tr.run_br, d1, cond_false, Tr.run_ret, someBind, d2]
  dsimp only
  rw [Tr.run_br, cond_false, Tr.run_bind, hu, someBind]
  dsimp only
  rw [Tr.run_br, bne_self_eq_false, cond_false, Tr.run_bind, hg, someBind]
  dsimp only
  rw [Tr.run_br, bne_self_eq_false, cond_false, Tr.run_need _ (by omega), Tr.run_ret, p2_nat _ _ (by omega)]
  have hp : 0 < 2 ^ k := Nat.pow_pos (by decide)
  have hdm : 2 ^ k * (zz n / 2 ^ k) + zz n % 2 ^ k = zz n := Nat.div_add_mod _ _
  have hzl := zz_lt n hn
  rw [or_low (zz n / 2 ^ k) (zz n % 2 ^ k) k (Nat.mod_lt _ hp) (by rw [hdm]; exact hzl), hdm, zz_back n hn, e2, Nat.add_assoc a (zz n / 2 ^ k + 1) k]
end Go.Proofs.Ytfblaicifdgfiaa.Dg
end

section
set_option linter.unusedVariables false
set_option linter.unusedSimpArgs false
set_option maxRecDepth 10000
namespace Go.LM
open Go
def sumP (cs l : List Int) : Nat → Int
  | 0 => 0
  | i + 1 => w64 (sumP cs l i + w64 (cs.getD i 0 * l.getD (l.length - 1 - i) 0))
def predV (cs : List Int) (sh : Nat) (l : List Int) : Int := sumP cs l cs.length / ((2 ^ sh : Nat) : Int)
def leftV (cs : List Int) (sh o : Nat) (l : List Int) : List Int := (List.range (l.length - o)).map fun j => w64 (l.getD (o + j) 0 - predV cs sh (l.take (o + j)))
theorem leftV_len (cs : List Int) (sh o : Nat) (l : List Int) : (leftV cs sh o l).length = l.length - o := by simp [leftV]
theorem w64_range (x : Int) : -9223372036854775808 ≤ w64 x ∧ w64 x < 9223372036854775808 := by
  show -9223372036854775808 ≤ IntKind.i64.wrap x ∧ IntKind.i64.wrap x < 9223372036854775808
  rw [IntKind.wrap_i64]; omega
theorem leftV_range (cs : List Int) (sh o : Nat) (l : List Int) : ∀ x ∈ leftV cs sh o l, -9223372036854775808 ≤ x ∧ x < 9223372036854775808 := fun x hx => by
  obtain ⟨j, _, rfl⟩ := List.mem_map.1 hx
  exact w64_range _
theorem w64_back (a p : Int) (h : -9223372036854775808 ≤ a ∧ a < 9223372036854775808) : w64 (w64 (a - p) + p) = a := by
  show IntKind.i64.wrap (IntKind.i64.wrap (a - p) + p) = a
  rw [IntKind.wrap_i64, IntKind.wrap_i64]; omega
def fixedC : Nat → List Int
  | 0 => []
  | 1 => [1]
  | 2 => [2, -1]
  | 3 => [3, -3, 1]
  | _ => [4, -6, 4, -1]
theorem fixedC_len (o : Nat) (h : o ≤ 4) : (fixedC o).length = o := by
  have : o = 0 ∨ o = 1 ∨ o = 2 ∨ o = 3 ∨ o = 4 := by omega
  rcases this with rfl | rfl | rfl | rfl | rfl <;> rfl
end Go.LM
namespace Go.Proofs.Ytfblaicifdgfiaa.Dg
open Go.LM
theorem CloneI_eq (l : List Int) (h : l.length ≤ 1048576) : LQ.CloneI l = some l := by
  unfold LQ.CloneI
  rw [if_pos (by omega)]
theorem pred1_eq (l cs : List Int) (sh : Nat) (hc : cs.length ≤ l.length) (hl : l.length ≤ 1048576) (hs : sh ≤ 63) : LQ.pred1 l cs (sh : Int) = some (predV cs sh l, cs, (sh : Int)) := by
  unfold LQ.pred1 LQ.pred1.t
  rw [Tr.run_bind]
  have hlo := loopO_steps (f := fun (d : Int × Int × List Int × Int) ↦ (LQ.pred1.l0 l cs d.fst d.snd.fst d.snd.snd.fst d.snd.snd.snd).run) (fun k => (sumP cs l k, (k : Int), cs, (sh : Int))) (r := (sumP cs l cs.length, cs, (sh : Int))) cs.length (fun k hk => by
    have hw : w64 (w64 (Int.ofNat l.length - 1) - (k : Int)) = ((l.length - 1 - k : Nat) : Int) := by
      simp only [Int.ofNat_eq_natCast]
      rw [w64_id (x := (l.length : Int) - 1) (by omega), w64_id (by omega)]; omega
    unfold LQ.pred1.l0
    dsimp only
    rw [Tr.run_br, decide_eq_true (by simp only [Int.ofNat_eq_natCast]; omega), cond_true, Tr.run_need _ (by simp only [Int.ofNat_eq_natCast]; omega), hw, Tr.run_need _ (by simp only [Int.ofNat_eq_natCast]; omega), Tr.run_ret, w64_id (x := (k : Int) + 1) (by omega), Int.toNat_natCast, Int.toNat_natCast]
    rfl) (by
    unfold LQ.pred1.l0
    dsimp only
    rw [Tr.run_br, decide_eq_false (by simp only [Int.ofNat_eq_natCast]; omega), cond_false, Tr.run_ret])
  refine (bindT hlo).trans ?_
  dsimp only
  rw [Tr.run_need _ (by omega), Tr.run_ret, p2_nat _ _ (by omega)]
  rfl
theorem pred1R_eq (l cs : List Int) (sh : Nat) (hc : cs.length ≤ l.length) (hl : l.length ≤ 1048576) (hs : sh ≤ 63) : LQ.pred1R l cs (sh : Int) = some (predV cs sh l, l, cs, (sh : Int)) := by
  unfold LQ.pred1R LQ.pred1R.t
  rw [Tr.run_bind]
  have hlo := loopO_steps (f := fun (d : Int × Int × List Int × List Int × Int) ↦ (LQ.pred1R.l0 cs d.fst d.snd.fst d.snd.snd.fst d.snd.snd.snd.fst d.snd.snd.snd.snd).run) (fun k => (sumP cs l k, (k : Int), l, cs, (sh : Int))) (r := (sumP cs l cs.length, l, cs, (sh : Int))) cs.length (fun k hk => by
    have hw : w64 (w64 (Int.ofNat l.length - 1) - (k : Int)) = ((l.length - 1 - k : Nat) : Int) := by
      simp only [Int.ofNat_eq_natCast]
      rw [w64_id (x := (l.length : Int) - 1) (by omega), w64_id (by omega)]; omega
    unfold LQ.pred1R.l0
    dsimp only
    rw [Tr.run_br, decide_eq_true (by simp only [Int.ofNat_eq_natCast]; omega), cond_true, Tr.run_need _ (by simp only [Int.ofNat_eq_natCast]; omega), hw, Tr.run_need _ (by simp only [Int.ofNat_eq_natCast]; omega), Tr.run_ret, w64_id (x := (k : Int) + 1) (by omega), Int.toNat_natCast, Int.toNat_natCast]
    rfl) (by
    unfold LQ.pred1R.l0
    dsimp only
    rw [Tr.run_br, decide_eq_false (by simp only [Int.ofNat_eq_natCast]; omega), cond_false, Tr.run_ret])
  refine (bindT hlo).trans ?_
  dsimp only
  rw [Tr.run_need _ (by omega), Tr.run_ret, p2_nat _ _ (by omega)]
  rfl
theorem pLeft_eq (l cs : List Int) (sh o : Nat) (hc : cs.length ≤ o) (ho : o ≤ l.length) (hl : l.length ≤ 1048576) (hs : sh ≤ 63) : LQ.pLeft ((o : Int), l) cs (sh : Int) = some (leftV cs sh o l, cs, (sh : Int)) := by
  unfold LQ.pLeft LQ.pLeft.t
  rw [Tr.run_bind]
  have hlo := loopO_steps (f := fun (d : Int × List Int × Int × List Int) ↦ (LQ.pLeft.l0 ((o : Int), l) d.fst d.snd.fst d.snd.snd.fst d.snd.snd.snd).run) (fun k => (((o + k : Nat) : Int), cs, (sh : Int), (leftV cs sh o l).take k)) (r := (cs, (sh : Int), leftV cs sh o l)) (l.length - o) (fun k hk => by
    have hp := pred1_eq (l.take (o + k)) cs sh (by rw [List.length_take]; omega) (by rw [List.length_take]; omega) hs
    unfold LQ.pLeft.l0
    dsimp only
    rw [Tr.run_br, decide_eq_true (by simp only [Int.ofNat_eq_natCast]; omega), cond_true, Tr.run_need _ (by simp only [Int.ofNat_eq_natCast]; omega), Tr.run_need _ (by simp only [Int.ofNat_eq_natCast]; omega), Tr.run_bind, Int.sub_zero, Int.toNat_natCast, List.drop_zero, hp, someBind]
    dsimp only
    rw [Tr.run_need _ ⟨rfl, rfl, trivial⟩, Tr.run_need _ (by simp only [List.length_take, leftV_len, List.length_set, List.length_replicate]; omega), Tr.run_ret, w64_id (x := ((o + k : Nat) : Int) + 1) (by omega)]
    have e : (leftV cs sh o l).take (k + 1) = (leftV cs sh o l).take k ++ [w64 (l.getD (o + k) 0 - predV cs sh (l.take (o + k)))] := by
      rw [List.take_succ_eq_append_getElem (by rw [leftV_len]; exact hk)]
      congr 2
      simp [leftV]
    rw [e]; rfl) (by
    unfold LQ.pLeft.l0
    dsimp only
    rw [Tr.run_br, decide_eq_false (by simp only [Int.ofNat_eq_natCast]; omega), cond_false, Tr.run_ret, List.take_of_length_le (by rw [leftV_len]; omega)])
  refine (bindT hlo).trans ?_
  rfl
theorem whole_eq (l cs : List Int) (sh o : Nat) (hc : cs.length ≤ o) (ho : o ≤ l.length) (hl : l.length ≤ 1048576) (hs : sh ≤ 63) (hr : ∀ x ∈ l, -9223372036854775808 ≤ x ∧ x < 9223372036854775808) :
    LQ.whole (l.take o, leftV cs sh o l) cs (sh : Int) = some (l, cs, (sh : Int)) := by
  unfold LQ.whole LQ.whole.t
  dsimp only
  rw [Tr.run_bind, CloneI_eq _ (by rw [List.length_take]; omega), someBind, Tr.run_bind]
  have hlo := loopO_steps (f := fun (d : Int × List Int × Int × List Int) ↦ (LQ.whole.l0 (l.take o, leftV cs sh o l) d.fst d.snd.fst d.snd.snd.fst d.snd.snd.snd).run) (fun k => ((k : Int), cs, (sh : Int), l.take (o + k))) (r := (cs, (sh : Int), l)) (l.length - o) (fun k hk => by
    have hp := pred1R_eq (l.take (o + k)) cs sh (by rw [List.length_take]; omega) (by rw [List.length_take]; omega) hs
    unfold LQ.whole.l0
    dsimp only
    rw [Tr.run_br, decide_eq_true (by rw [leftV_len]; simp only [Int.ofNat_eq_natCast]; omega), cond_true, Tr.run_need _ (by rw [leftV_len]; simp only [Int.ofNat_eq_natCast]; omega), Tr.run_bind, hp, someBind]
    dsimp only
    rw [Tr.run_need _ ⟨rfl, rfl, rfl, trivial⟩, Tr.run_need _ (by simp only [List.length_take, List.length_set, List.length_replicate]; omega), Tr.run_ret, w64_id (x := (k : Int) + 1) (by omega), Int.toNat_natCast]
    have e1 : (leftV cs sh o l).getD k 0 = w64 (l.getD (o + k) 0 - predV cs sh (l.take (o + k))) := by
      rw [getD_lt _ _ (by rw [leftV_len]; exact hk)]
      simp [leftV]
    have e2 : l.getD (o + k) 0 = l[o + k] := getD_lt _ _ (by omega)
    have e : l.take (o + (k + 1)) = l.take (o + k) ++ [l.getD (o + k) 0] := by
      rw [← Nat.add_assoc, List.take_succ_eq_append_getElem (by omega), e2]
    rw [e1, w64_back _ _ (by rw [e2]; exact hr _ (List.getElem_mem _)), e]; rfl) (by
    unfold LQ.whole.l0
    dsimp only
    rw [Tr.run_br, decide_eq_false (by rw [leftV_len]; simp only [Int.ofNat_eq_natCast]; omega), cond_false, Tr.run_ret, List.take_of_length_le (by omega)])
  rw [Nat.add_zero] at hlo
  refine (bindT hlo).trans ?_
  rfl
theorem pOf_eq (cs : List Int) (sh : Int) (h : cs.length ≤ 1048576) : LQ.pOf cs sh = some (cs, sh) := by
  unfold LQ.pOf LQ.pOf.t
  rw [Tr.run_bind, CloneI_eq _ h]; rfl
theorem pFixed_eq (o : Nat) (h : o ≤ 4) : LQ.pFixed (o : Int) = some (fixedC o, 0) := by
  unfold LQ.pFixed LQ.pFixed.t
  rw [Tr.run_need _ (by omega), Tr.run_bind, Int.toNat_natCast]
  have : o = 0 ∨ o = 1 ∨ o = 2 ∨ o = 3 ∨ o = 4 := by omega
  rcases this with rfl | rfl | rfl | rfl | rfl <;> exact (bindT (pOf_eq _ _ (by decide))).trans rfl
theorem Fixed_eq (o : Nat) (l : List Int) (h : o ≤ 4) (ho : o ≤ l.length) (hl : l.length ≤ 1048576) : LQ.Fixed (o : Int) l = some (leftV (fixedC o) 0 o l, 0) := by
  unfold LQ.Fixed LQ.Fixed.t
  have d1 : decide ((o : Int) < 0) = false := decide_eq_false (by omega)
  have d2 : decide ((o : Int) > 4) = false := decide_eq_false (by omega)
  have d3 : decide (Int.ofNat l.length < (o : Int)) = false := decide_eq_false (by simp only [Int.ofNat_eq_natCast]; omega)
  rw [Tr.run_bind, Tr.run_br, d1, cond_false, Tr.run_br, d2, cond_false, Tr.run_ret, someBind, d3, Tr.run_br, cond_false, Tr.run_bind, pFixed_eq o h, someBind, Tr.run_bind]
  refine (bindT (pLeft_eq l (fixedC o) 0 o (by rw [fixedC_len o h]; exact Nat.le_refl _) ho hl (by decide))).trans ?_
  rfl
theorem Unfixed_eq (o : Nat) (l : List Int) (h : o ≤ 4) (ho : o ≤ l.length) (hl : l.length ≤ 1048576) (hr : ∀ x ∈ l, -9223372036854775808 ≤ x ∧ x < 9223372036854775808) : LQ.Unfixed (o : Int) (l.take o) (leftV (fixedC o) 0 o l) = some (l, 0) := by
  unfold LQ.Unfixed LQ.Unfixed.t
  have d1 : decide ((o : Int) < 0) = false := decide_eq_false (by omega)
  have d2 : decide ((o : Int) > 4) = false := decide_eq_false (by omega)
  have d3 : (Int.ofNat (l.take o).length != (o : Int)) = false := by rw [List.length_take, Nat.min_eq_left ho]; simp
  rw [Tr.run_bind, Tr.run_br, d1, cond_false, Tr.run_br, d2, cond_false, Tr.run_ret, someBind, d3, Tr.run_br, cond_false, Tr.run_bind, pFixed_eq o h, someBind, Tr.run_bind]
  refine (bindT (whole_eq l (fixedC o) 0 o (by rw [fixedC_len o h]; exact Nat.le_refl _) ho hl (by decide) hr)).trans ?_
  rfl
theorem pMay_eq (cs : List Int) (sh : Nat) (h1 : 1 ≤ cs.length) (h2 : cs.length ≤ 32) (hs : sh ≤ 31) : LQ.pMay cs (sh : Int) = some true := by
  unfold LQ.pMay LQ.pMay.t
  have d1 : decide (Int.ofNat cs.length ≥ 1) = true := decide_eq_true (by simp only [Int.ofNat_eq_natCast]; omega)
  have d2 : decide (Int.ofNat cs.length ≤ 32) = true := decide_eq_true (by simp only [Int.ofNat_eq_natCast]; omega)
  have d3 : decide ((sh : Int) ≥ 0) = true := decide_eq_true (by omega)
  have d4 : decide ((sh : Int) ≤ 31) = true := decide_eq_true (by omega)
  rw [Tr.run_bind, Tr.run_br, d1, cond_true, Tr.run_br, d2, cond_true, Tr.run_br, d3, cond_true, Tr.run_ret, d4]
  rfl
theorem Lpc_eq (cs l : List Int) (sh : Nat) (h1 : 1 ≤ cs.length) (h2 : cs.length ≤ 32) (hs : sh ≤ 31) (ho : cs.length ≤ l.length) (hl : l.length ≤ 1048576) : LQ.Lpc cs (sh : Int) l = some (leftV cs sh cs.length l, 0) := by
  unfold LQ.Lpc LQ.Lpc.t
  have d3 : decide (Int.ofNat l.length < Int.ofNat cs.length) = false := decide_eq_false (by simp only [Int.ofNat_eq_natCast]; omega)
  rw [Tr.run_bind, Tr.run_bind, pMay_eq cs sh h1 h2 hs, someBind, Bool.not_true, Tr.run_br, cond_false, Tr.run_ret, someBind, d3, Tr.run_br, cond_false, Tr.run_bind, pOf_eq cs _ (by omega), someBind, Tr.run_bind]
  refine (bindT (pLeft_eq l cs sh cs.length (Nat.le_refl _) ho hl (by omega))).trans ?_
  rfl
theorem Unlpc_eq (cs l : List Int) (sh : Nat) (h1 : 1 ≤ cs.length) (h2 : cs.length ≤ 32) (hs : sh ≤ 31) (ho : cs.length ≤ l.length) (hl : l.length ≤ 1048576) (hr : ∀ x ∈ l, -9223372036854775808 ≤ x ∧ x < 9223372036854775808) : LQ.Unlpc cs (sh : Int) (l.take cs.length) (leftV cs sh cs.length l) = some (l, 0) := by
  unfold LQ.Unlpc LQ.Unlpc.t
  have d3 : (Int.ofNat (l.take cs.length).length != Int.ofNat cs.length) = false := by rw [List.length_take, Nat.min_eq_left ho]; simp
  rw [Tr.run_bind, Tr.run_bind, pMay_eq cs sh h1 h2 hs, someBind, Bool.not_true, Tr.run_br, cond_false, Tr.run_ret, someBind, d3, Tr.run_br, cond_false, Tr.run_bind, pOf_eq cs _ (by omega), someBind, Tr.run_bind]
  refine (bindT (whole_eq l cs sh cs.length (Nat.le_refl _) ho hl (by omega) hr)).trans ?_
  rfl
theorem Unshift_eq (l : List Int) (wst : Nat) (hw : wst ≤ 31) (hl : l.length ≤ 1048576) (hd : ∀ n ∈ l, n / ((2 ^ wst : Nat) : Int) * ((2 ^ wst : Nat) : Int) = n ∧ -9223372036854775808 ≤ n ∧ n < 9223372036854775808) : LQ.Unshift (l.map (fun n => n / ((2 ^ wst : Nat) : Int))) (wst : Int) = some (l, 0) := by
  unfold LQ.Unshift LQ.Unshift.t
  have hlo := loopO_steps (f := fun (d : Int × List Int) ↦ (LQ.Unshift.l0 (l.map (fun n => n / ((2 ^ wst : Nat) : Int))) (wst : Int) d.fst d.snd).run) (fun k => ((k : Int), l.take k)) (r := l) l.length (fun k hk => by
    have hm := hd (l.getD k 0) (by rw [getD_lt _ _ hk]; exact List.getElem_mem hk)
    have e1 : (l.map (fun n => n / ((2 ^ wst : Nat) : Int))).getD k 0 = l.getD k 0 / ((2 ^ wst : Nat) : Int) := by
      rw [getD_lt _ _ (by rw [List.length_map]; exact hk), List.getElem_map, getD_lt _ _ hk]
    unfold LQ.Unshift.l0
    dsimp only
    rw [Tr.run_br, decide_eq_true (by rw [List.length_map]; simp only [Int.ofNat_eq_natCast]; omega), cond_true, Tr.run_need _ (by rw [List.length_map]; simp only [Int.ofNat_eq_natCast]; omega), Tr.run_need _ (by omega), p2_nat _ _ (by omega), Int.toNat_natCast, e1, hm.1, w64_id hm.2, Tr.run_need _ (by simp only [List.length_take, List.length_set, List.length_replicate]; omega), Tr.run_ret, w64_id (by omega)]
    have e : l.take (k + 1) = l.take k ++ [l.getD k 0] := by rw [List.take_succ_eq_append_getElem hk, getD_lt _ _ hk]
    rw [e]; rfl) (by
    unfold LQ.Unshift.l0
    dsimp only
    rw [Tr.run_br, decide_eq_false (by rw [List.length_map]; simp only [Int.ofNat_eq_natCast]; omega), cond_false, Tr.run_ret, List.take_of_length_le (Nat.le_refl _)])
  have d1 : decide ((wst : Int) < 0) = false := decide_eq_false (by omega)
  have d2 : decide ((wst : Int) > 31) = false := decide_eq_false (by omega)
  rw [Tr.run_bind, Tr.run_br, d1, cond_false, Tr.run_ret, someBind, d2, Tr.run_br, cond_false, Tr.run_bind]
  refine (bindT (a := l) hlo).trans ?_
  rfl
end Go.Proofs.Ytfblaicifdgfiaa.Dg
end

section
set_option linter.unusedVariables false
set_option linter.unusedSimpArgs false
set_option maxRecDepth 10000
namespace Go.LM
open Go
theorem flat_split {α β : Type} (g : α → List β) (xs : List α) (j : Nat) (hj : j < xs.length) : xs.flatMap g = (xs.take j).flatMap g ++ (g xs[j] ++ (xs.drop (j + 1)).flatMap g) := by
  conv => lhs; rw [← List.take_append_drop j xs, List.flatMap_append, List.drop_eq_getElem_cons hj, List.flatMap_cons]
theorem flat_step {α β : Type} (g : α → List β) (xs : List α) (j : Nat) (hj : j < xs.length) : ((xs.take (j + 1)).flatMap g).length = ((xs.take j).flatMap g).length + (g xs[j]).length := by
  rw [List.take_succ_eq_append_getElem hj, List.flatMap_append, List.length_append]; simp
theorem Bat.item {α : Type} {all : List Bool} {a : Nat} {g : α → List Bool} {xs : List α} (h : Bat all a (xs.flatMap g)) (j : Nat) (hj : j < xs.length) : Bat all (a + ((xs.take j).flatMap g).length) (g xs[j]) := by
  rw [flat_split g xs j hj] at h
  exact h.right.left
def fitsW (W : Nat) (n : Int) : Prop := -((2 ^ (W - 1) : Nat) : Int) ≤ n ∧ n < ((2 ^ (W - 1) : Nat) : Int)
def inR (n : Int) : Prop := -9223372036854775808 ≤ n ∧ n < 9223372036854775808
end Go.LM
namespace Go.Proofs.Ytfblaicifdgfiaa.Dg
open Go.LM
def itB (k e : Int) (n : Int) : List Bool := if e < 0 then riB n k.toNat else if 0 < e then bitsOf (two64 n) e.toNat else []
def ptB (wide : Nat) (k e : Int) (l : List Int) : List Bool := (if e < 0 then bitsOf k.toNat wide else bitsOf (2 ^ wide - 1) wide ++ bitsOf e.toNat 5) ++ l.flatMap (itB k e)
structure PtOK (wide : Nat) (k e : Int) (l : List Int) : Prop where
  hw : wide = 4 ∨ wide = 5
  k0 : 0 ≤ k
  k1 : k < ((2 ^ wide - 1 : Nat) : Int)
  e0 : -1 ≤ e
  e1 : e ≤ 31
  ke : 0 ≤ e → k = 0
  it : ∀ n ∈ l, inR n ∧ (e < 0 → zz n / 2 ^ k.toNat ≤ 16777216) ∧ (0 < e → fitsW e.toNat n) ∧ (e = 0 → n = 0)
theorem numbers_eq (all : List Bool) (a W : Nat) (l : List Int) (h : Bat all a (sgBits W l)) (h1 : 1 ≤ W) (h2 : W ≤ 63) (hf : ∀ n ∈ l, fitsW W n) (hl : l.length ≤ 1048576) (hb : all.length ≤ 1099511627776) :
    LQ.numbers ((l.length : Int), (W : Int)) (a : Int) (pk all) = some ((l, true), ((a + l.length * W : Nat) : Int), pk all) := by
  unfold LQ.numbers LQ.numbers.t
  rw [Tr.run_bind]
  have hlo := loopO_steps (f := fun (d : Int × (Int × List UInt8) × List Int) ↦ (LQ.numbers.l0 ((l.length : Int), (W : Int)) d.fst d.snd.fst d.snd.snd).run) (fun k => ((k : Int), (((a + k * W : Nat) : Int), pk all), l.take k)) (r := .inr ((((a + l.length * W : Nat) : Int), pk all), l)) l.length (fun k hk => by
    have hi := Bat.item (g := fun n => bitsOf ((n % 18446744073709551616).toNat) W) h k hk
    have hlen : ((l.take k).flatMap (fun n : Int => bitsOf ((n % 18446744073709551616).toNat) W)).length = k * W := by
      have := sgBits_len W (l.take k)
      rw [List.length_take, Nat.min_eq_left (by omega)] at this
      exact this
    rw [hlen] at hi
    have hs := SignedR_eq all (a + k * W) W l[k] hi h1 h2 (hf _ (List.getElem_mem hk)) hb
    unfold LQ.numbers.l0
    dsimp only
    rw [Tr.run_br, decide_eq_true (by omega), cond_true, Tr.run_bind, hs, someBind]
    dsimp only
    rw [Tr.run_br, bne_self_eq_false, cond_false, Tr.run_need _ (by simp only [List.length_take, List.length_set, List.length_replicate]; omega), Tr.run_ret, w64_id (x := (k : Int) + 1) (by omega)]
    have e : l.take (k + 1) = l.take k ++ [l[k]] := List.take_succ_eq_append_getElem hk
    rw [e, Nat.add_mul, Nat.one_mul, ← Nat.add_assoc]; rfl) (by
    unfold LQ.numbers.l0
    dsimp only
    rw [Tr.run_br, decide_eq_false (by omega), cond_false, Tr.run_ret, List.take_of_length_le (Nat.le_refl _)])
  simp only [Nat.zero_mul, Nat.add_zero, List.take_zero] at hlo
  refine (bindT hlo).trans ?_
  rfl
theorem part_eq (all : List Bool) (a wide : Nat) (k e : Int) (l : List Int) (h : Bat all a (ptB wide k e l)) (ok : PtOK wide k e l) (hl : l.length ≤ 65535) (hb : all.length ≤ 1099511627776) :
    LQ.part ((l.length : Int), (wide : Int)) (a : Int) (pk all) = some ((l, k, e, true), ((a + (ptB wide k e l).length : Nat) : Int), pk all) := by
  obtain ⟨hw, k0, k1, e0, e1, ke, it⟩ := ok
  have hw5 : wide ≤ 5 := by omega
  have hpw : 2 ^ wide ≤ 32 := by rcases hw with rfl | rfl <;> decide
  have hpw2 : 16 ≤ 2 ^ wide := by rcases hw with rfl | rfl <;> decide
  generalize hH : (if e < 0 then bitsOf k.toNat wide else bitsOf (2 ^ wide - 1) wide ++ bitsOf e.toNat 5) = H
  have hP : ptB wide k e l = H ++ l.flatMap (itB k e) := by unfold ptB; rw [hH]
  rw [hP] at h
  have wE : w64 (w64 ((1 : Int) * p2 (wide : Int) 64) - 1) = ((2 ^ wide - 1 : Nat) : Int) := by
    rw [p2_nat _ _ (by omega)]
    generalize 2 ^ wide = q at hpw hpw2
    rw [w64_id (x := (1 : Int) * (q : Int)) (by omega), w64_id (by omega)]; omega
  have hitem : ∀ j (hj : j < l.length), (Tr.br (decide (e < (0 : Int))) (Tr.bind ((Int × Int) × Int × List UInt8) (LQ.RiceR k (((a + H.length + ((l.take j).flatMap (itB k e)).length : Nat) : Int)) (pk all)) (((0 : Int), (0 : Int)), (0 : Int), []) fun (r5 : (Int × Int) × Int × List UInt8) ↦ Tr.ret (r5.fst.snd, r5.fst.fst, (r5.snd.fst, r5.snd.snd), l.take j)) (Tr.bind (Int × Int × (Int × List UInt8) × List Int) (Tr.br (decide (e > (0 : Int))) (Tr.bind ((Int × Int) × Int × List UInt8) (LQ.SignedR e (((a + H.length + ((l.take j).flatMap (itB k e)).length : Nat) : Int)) (pk all)) (((0 : Int), (0 : Int)), (0 : Int), []) fun (r6 : (Int × Int) × Int × List UInt8) ↦ Tr.ret (r6.fst.snd, r6.fst.fst, (r6.snd.fst, r6.snd.snd), l.take j)) (Tr.ret ((0 : Int), (0 : Int), ((((a + H.length + ((l.take j).flatMap (itB k e)).length : Nat) : Int)), pk all), l.take j))).run ((0 : Int), (0 : Int), ((0 : Int), []), []) fun (r7 : Int × Int × (Int × List UInt8) × List Int) ↦ Tr.ret (r7.fst, r7.snd.fst, (r7.snd.snd.fst.fst, r7.snd.snd.fst.snd), r7.snd.snd.snd))).run
      = some (0, l[j], (((a + H.length + ((l.take (j + 1)).flatMap (itB k e)).length : Nat) : Int), pk all), l.take j) := fun j hj => by
    have hi := Bat.item h.right j hj
    have hn := it _ (List.getElem_mem hj)
    rw [flat_step _ _ _ hj, ← Nat.add_assoc]
    generalize hpos : a + H.length + ((l.take j).flatMap (itB k e)).length = pos at hi
    by_cases hneg : e < 0
    · have eit : itB k e l[j] = riB l[j] k.toNat := by unfold itB; rw [if_pos hneg]
      rw [eit] at hi ⊢
      have hk30 : k.toNat ≤ 30 := by omega
      have hr := RiceR_eq all pos k.toNat l[j] hi hn.1 hk30 (hn.2.1 hneg) hb
      rw [Int.toNat_of_nonneg k0] at hr
      rw [decide_eq_true hneg, Tr.run_br, cond_true, Tr.run_bind, hr]; rfl
    · by_cases hpos0 : 0 < e
      · have eit : itB k e l[j] = bitsOf (two64 l[j]) e.toNat := by unfold itB; rw [if_neg hneg, if_pos hpos0]
        rw [eit] at hi ⊢
        have hr := SignedR_eq all pos e.toNat l[j] hi (by omega) (by omega) (hn.2.2.1 hpos0) hb
        rw [Int.toNat_of_nonneg (by omega)] at hr
        rw [decide_eq_false hneg, Tr.run_br, cond_false, Tr.run_bind, decide_eq_true (p := e > 0) hpos0, Tr.run_br, cond_true, Tr.run_bind, hr, someBind, Tr.run_ret, someBind, Tr.run_ret, bitsOf_len]
      · have eit : itB k e l[j] = [] := by unfold itB; rw [if_neg hneg, if_neg hpos0]
        have hn0 := hn.2.2.2 (by omega)
        rw [eit, hn0, decide_eq_false hneg, Tr.run_br, cond_false, Tr.run_bind, decide_eq_false (p := e > 0) hpos0, Tr.run_br, cond_false, Tr.run_ret, someBind, Tr.run_ret]; rfl
  have hlo := loopO_steps (f := fun (d : Int × (Int × List UInt8) × List Int) ↦ (LQ.part.l0 ((l.length : Int), (wide : Int)) (0, k, e, ((a + H.length : Nat) : Int), pk all) d.fst d.snd.fst d.snd.snd).run) (fun j => (0, (((a + H.length + ((l.take j).flatMap (itB k e)).length : Nat) : Int), pk all), l.take j)) (r := (0, (((a + H.length + (l.flatMap (itB k e)).length : Nat) : Int), pk all), l)) l.length (fun j hj => by
    unfold LQ.part.l0
    dsimp only
    have hlt : (l.take j).length = j := by rw [List.length_take]; omega
    rw [hlt, Tr.run_bind, Tr.run_br, decide_eq_true (p := Int.ofNat j < (l.length : Int)) (by simp only [Int.ofNat_eq_natCast]; omega), cond_true, Tr.run_ret, someBind]
    dsimp only
    rw [show ((0 : Int) == 0) = true from rfl, Tr.run_br, cond_true, Tr.run_bind]
    refine (bindT (hitem j hj)).trans ?_
    dsimp only
    rw [Tr.run_need _ (by rw [hlt]; simp only [List.length_set, List.length_replicate]; omega), Tr.run_ret]
    have e : l.take (j + 1) = l.take j ++ [l[j]] := List.take_succ_eq_append_getElem hj
    rw [e]; rfl) (by
    unfold LQ.part.l0
    dsimp only
    rw [List.take_of_length_le (Nat.le_refl _), Tr.run_bind, Tr.run_br, decide_eq_false (by simp only [Int.ofNat_eq_natCast]; omega), cond_false, Tr.run_ret, someBind, Tr.run_br, cond_false, Tr.run_ret])
  simp only [List.take_zero, List.flatMap_nil, List.length_nil, Nat.add_zero] at hlo
  unfold LQ.part LQ.part.t
  dsimp only
  have tail : ∀ (x : Tr ((List Int × Int × Int × Bool) × Int × List UInt8)), x.run = (Tr.need ((0 : Int) ≤ (0 : Int) ∧ ((0 : Int) ≤ if (65535 : Int) < (l.length : Int) then (65535 : Int) else (l.length : Int)) ∧ (if (65535 : Int) < (l.length : Int) then (65535 : Int) else (l.length : Int)).toNat * (8 : Nat) ≤ (140737488355328 : Nat)) x).run := fun x => by
    rw [Tr.run_need]
    rw [if_neg (by omega), Int.toNat_natCast]; omega
  by_cases hneg : e < 0
  · have hHe : H = bitsOf k.toNat wide := by rw [← hH, if_pos hneg]
    have hleft := h.left
    rw [hHe] at hleft
    have hg := Get_eq all _ a wide hleft (bitsOf_len _ _) (by omega) hb
    rw [valB_bitsOf, Nat.mod_eq_of_lt (by omega), Int.toNat_of_nonneg k0] at hg
    have hHl : H.length = wide := by rw [hHe, bitsOf_len]
    have he1 : e = -1 := by omega
    rw [Tr.run_bind, hg, someBind]
    dsimp only
    have ne : (w64 k == ((2 ^ wide - 1 : Nat) : Int)) = false := by rw [w64_id (by omega)]; exact beq_eq_false_iff_ne.2 (by omega)
    rw [Tr.run_bind, Tr.run_br, show ((0 : Int) == 0) = true from rfl, cond_true, Tr.run_need _ (by omega), Tr.run_ret, someBind, wE, ne]
    dsimp only
    rw [Tr.run_bind, Tr.run_br, cond_false, Tr.run_ret, someBind]
    dsimp only
    rw [← tail, Tr.run_bind]
    rw [hHl, he1] at hlo
    rw [w64_id (x := k) (by omega)]
    refine (bindT hlo).trans ?_
    rw [Tr.run_ret, hP, List.length_append, hHl, ← Nat.add_assoc, he1]
    rfl
  · have hHe : H = bitsOf (2 ^ wide - 1) wide ++ bitsOf e.toNat 5 := by rw [← hH, if_neg hneg]
    have hleft := h.left
    rw [hHe] at hleft
    have hg := Get_eq all _ a wide hleft.left (bitsOf_len _ _) (by omega) hb
    rw [valB_bitsOf, Nat.mod_eq_of_lt (by omega)] at hg
    have h2 := hleft.right
    rw [bitsOf_len] at h2
    have hg2 := Get_eq all _ (a + wide) 5 h2 (bitsOf_len _ _) (by omega) hb
    rw [valB_bitsOf, Nat.mod_eq_of_lt (by omega), Int.toNat_of_nonneg (by omega)] at hg2
    have hHl : H.length = wide + 5 := by rw [hHe, List.length_append, bitsOf_len, bitsOf_len]
    have hk0 := ke (by omega)
    rw [Tr.run_bind, hg, someBind]
    dsimp only
    have ne : (w64 ((2 ^ wide - 1 : Nat) : Int) == ((2 ^ wide - 1 : Nat) : Int)) = true := by rw [w64_id (by omega)]; exact beq_self_eq_true _
    rw [Tr.run_bind, Tr.run_br, show ((0 : Int) == 0) = true from rfl, cond_true, Tr.run_need _ (by omega), Tr.run_ret, someBind, wE, ne]
    dsimp only
    rw [Tr.run_bind, Tr.run_br, cond_true, Tr.run_bind, show (5 : Int) = ((5 : Nat) : Int) from rfl, hg2, someBind, Tr.run_ret, someBind]
    dsimp only
    rw [← tail, Tr.run_bind]
    rw [hHl, hk0, ← Nat.add_assoc] at hlo
    rw [w64_id (x := e) (by omega)]
    refine (bindT hlo).trans ?_
    rw [Tr.run_ret, hP, List.length_append, hHl, hk0, ← Nat.add_assoc, ← Nat.add_assoc]
    rfl
end Go.Proofs.Ytfblaicifdgfiaa.Dg
end

section
set_option linter.unusedVariables false
set_option linter.unusedSimpArgs false
set_option maxRecDepth 10000
namespace Go.LM
open Go
def cutN (l : List Int) (o n i : Nat) : List Int := (l.drop (i * n - o)).take ((i + 1) * n - o - (i * n - o))
theorem cutN_take (l : List Int) (o n i : Nat) : l.take ((i + 1) * n - o) = l.take (i * n - o) ++ cutN l o n i := by
  unfold cutN
  have h : i * n - o ≤ (i + 1) * n - o := by rw [Nat.add_mul, Nat.one_mul]; omega
  rw [show (i + 1) * n - o = (i * n - o) + ((i + 1) * n - o - (i * n - o)) by omega, List.take_add]
  rw [show (i * n - o) + ((i + 1) * n - o - (i * n - o)) - (i * n - o) = (i + 1) * n - o - (i * n - o) by omega]
theorem cutN_len (l : List Int) (o n i N : Nat) (hi : i < N) (hl : l.length = N * n - o) : (cutN l o n i).length = (i + 1) * n - o - (i * n - o) := by
  unfold cutN
  have h : (i + 1) * n ≤ N * n := Nat.mul_le_mul_right n hi
  rw [List.length_take, List.length_drop, hl]; omega
theorem range_take (n i : Nat) (h : i ≤ n) : (List.range n).take i = List.range i := by
  rw [List.take_range, Nat.min_eq_left h]
end Go.LM
namespace Go.Proofs.Ytfblaicifdgfiaa.Dg
open Go.LM
structure RiOK (m ro : Nat) (ps es : List Int) (block order : Nat) (l : List Int) : Prop where
  hm : m = 0 ∨ m = 1
  ro15 : ro ≤ 15
  b1 : 1 ≤ block
  b2 : block ≤ 65535
  o32 : order ≤ 32
  dv : block / 2 ^ ro * 2 ^ ro = block
  ge : order ≤ block / 2 ^ ro
  lp : ps.length = 2 ^ ro
  le : es.length = 2 ^ ro
  ll : l.length = block - order
  pt : ∀ i, i < 2 ^ ro → PtOK (4 + m) (ps.getD i 0) (es.getD i 0) (cutN l order (block / 2 ^ ro) i)
def ptG (m : Nat) (ps es l : List Int) (order n : Nat) (i : Nat) : List Bool := ptB (4 + m) (ps.getD i 0) (es.getD i 0) (cutN l order n i)
def riceB (m ro : Nat) (ps es : List Int) (n order : Nat) (l : List Int) : List Bool := bitsOf m 2 ++ (bitsOf ro 4 ++ (List.range (2 ^ ro)).flatMap (ptG m ps es l order n))
theorem rshape_eq (m ro block order : Nat) (ps es : List Int) (hm : m = 0 ∨ m = 1) (hro : ro ≤ 15) (hb : 1 ≤ block ∧ block ≤ 65535) (ho : order ≤ 32) (dv : block / 2 ^ ro * 2 ^ ro = block) (ge : order ≤ block / 2 ^ ro) : LQ.rshape ((m : Int), (ro : Int), ps, es, ()) (block : Int) (order : Int) = some true := by
  unfold LQ.rshape LQ.rshape.t
  dsimp only
  have d0 : (w64 (bitsI Go.BinOp.andNot Go.IntKind.i64 (m : Int) 1) != 0) = false := by rcases hm with rfl | rfl <;> decide +kernel
  have d1 : decide ((ro : Int) < 0) = false := decide_eq_false (by omega)
  have d2 : decide ((ro : Int) > 15) = false := decide_eq_false (by omega)
  have d3 : decide ((block : Int) < 1) = false := decide_eq_false (by omega)
  have d4 : decide ((block : Int) > 65535) = false := decide_eq_false (by omega)
  have d5 : decide ((order : Int) < 0) = false := decide_eq_false (by omega)
  have d6 : decide ((order : Int) > 32) = false := decide_eq_false (by omega)
  have e1 : (block : Int) / ((2 ^ ro : Nat) : Int) * ((2 ^ ro : Nat) : Int) = (block : Int) := by
    have : (block : Int) / ((2 ^ ro : Nat) : Int) * ((2 ^ ro : Nat) : Int) = ((block / 2 ^ ro * 2 ^ ro : Nat) : Int) := rfl
    rw [this, dv]
  have d7 : decide ((block : Int) / ((2 ^ ro : Nat) : Int) ≥ (order : Int)) = true := decide_eq_true (by
    have : (block : Int) / ((2 ^ ro : Nat) : Int) = ((block / 2 ^ ro : Nat) : Int) := rfl
    rw [this]
    generalize block / 2 ^ ro = q at ge
    omega)
  rw [Tr.run_bind]
  refine (bindT (a := (false, (m : Int), (ro : Int), ps, es)) (by
    rw [Tr.run_br, d0, cond_false, Tr.run_br, d1, cond_false, Tr.run_br, d2, cond_false, Tr.run_br, d3, cond_false, Tr.run_br, d4, cond_false, Tr.run_br, d5, cond_false, Tr.run_ret, d6])).trans ?_
  dsimp only
  rw [Tr.run_br, cond_false, Tr.run_need _ (by omega), Tr.run_bind, Tr.run_need _ (by omega), Tr.run_br, p2_nat _ _ (by omega), e1, w64_id (by omega), beq_self_eq_true, cond_true, Tr.run_ret, someBind, d7]
  rfl
theorem rDec_eq (all : List Bool) (a m ro block order : Nat) (ps es l : List Int) (ok : RiOK m ro ps es block order l) (h : Bat all a (riceB m ro ps es (block / 2 ^ ro) order l)) (hb : all.length ≤ 1099511627776) :
    LQ.rDec ((block : Int), (order : Int)) (a : Int) (pk all) = some ((l, ((m : Int), (ro : Int), ps, es, ()), 0), ((a + (riceB m ro ps es (block / 2 ^ ro) order l).length : Nat) : Int), pk all) := by
  obtain ⟨hm, ro15, b1, b2, o32, dv, ge, lp, le, ll, pt⟩ := ok
  have hob : order ≤ block := Nat.le_trans ge (Nat.div_le_self _ _)
  have hsh := rshape_eq m ro block order [] [] hm ro15 ⟨b1, b2⟩ o32 dv ge
  have hN : 2 ^ ro ≤ 2 ^ 15 := Nat.pow_le_pow_right (by decide) ro15
  have hdiv : ((block : Int) / ((2 ^ ro : Nat) : Int)) = ((block / 2 ^ ro : Nat) : Int) := rfl
  have ll2 : l.length = 2 ^ ro * (block / 2 ^ ro) - order := by rw [Nat.mul_comm, dv, ll]
  unfold riceB at h ⊢
  generalize hn : block / 2 ^ ro = n at *
  generalize hNN : 2 ^ ro = N at *
  have hg1 := Get_eq all _ a 2 h.left (bitsOf_len _ _) (by decide) hb
  rw [valB_bitsOf, Nat.mod_eq_of_lt (by rcases hm with rfl | rfl <;> decide)] at hg1
  have hr1 := h.right
  rw [bitsOf_len] at hr1
  have hg2 := Get_eq all _ (a + 2) 4 hr1.left (bitsOf_len _ _) (by decide) hb
  rw [valB_bitsOf, Nat.mod_eq_of_lt (by omega)] at hg2
  have hr2 := hr1.right
  rw [bitsOf_len] at hr2
  unfold LQ.rDec LQ.rDec.t
  have d1 : decide ((block : Int) < 1) = false := decide_eq_false (by omega)
  have d2 : decide ((block : Int) > 65535) = false := decide_eq_false (by omega)
  have d3 : decide ((order : Int) < 0) = false := decide_eq_false (by omega)
  have d4 : decide ((order : Int) > 32) = false := decide_eq_false (by omega)
  have d5 : decide ((order : Int) > (block : Int)) = false := decide_eq_false (by omega)
  dsimp only
  rw [Tr.run_bind]
  refine (bindT (a := (false, ((a : Int), pk all), (0 : Int), (0 : Int))) (by
    rw [Tr.run_br, cond_false, Tr.run_br, d1, cond_false, Tr.run_br, d2, cond_false, Tr.run_br, d3, cond_false, Tr.run_br, d4, cond_false, Tr.run_ret, d5])).trans ?_
  dsimp only
  rw [Tr.run_br, cond_false, Tr.run_bind]
  refine (bindT hg1).trans ?_
  dsimp only
  rw [Tr.run_bind]
  refine (bindT hg2).trans ?_
  dsimp only
  rw [Tr.run_bind]
  have wm : w64 (m : Int) = (m : Int) := w64_id (by omega)
  have wo : w64 (ro : Int) = (ro : Int) := w64_id (by omega)
  refine (bindT (a := (false, (((a + 2 + 4 : Nat) : Int), pk all), ((0 : Int), (0 : Int)), (m : Int), (ro : Int))) (by
    rw [Tr.run_br, bne_self_eq_false, cond_false, Tr.run_br, cond_false, Tr.run_bind, wm, wo, hsh]; rfl)).trans ?_
  dsimp only
  rw [Tr.run_br, cond_false, Tr.run_need _ (by omega), Tr.run_bind]
  have hlo := loopO_steps (f := fun (d : Int × (Int × List UInt8) × (Int × Int) × (Int × Int) × List Int × List Int × List Int) ↦ (LQ.rDec.l0 ((block : Int), (order : Int)) (false, (((a + 2 + 4 : Nat) : Int), pk all), ((0 : Int), (0 : Int)), (m : Int), (ro : Int)) d.fst d.snd.fst d.snd.snd.fst d.snd.snd.snd.fst d.snd.snd.snd.snd.fst d.snd.snd.snd.snd.snd.fst d.snd.snd.snd.snd.snd.snd).run)
    (fun i => ((i : Int), (((a + 2 + 4 + ((List.range i).flatMap (ptG m ps es l order n)).length : Nat) : Int), pk all), ((0 : Int), (0 : Int)), ((m : Int), (ro : Int)), l.take (i * n - order), ps.take i, es.take i))
    (r := .inr ((((a + 2 + 4 + ((List.range N).flatMap (ptG m ps es l order n)).length : Nat) : Int), pk all), ((0 : Int), (0 : Int)), ((m : Int), (ro : Int)), l, ps, es)) N (fun i hi => by
    have hit := Bat.item hr2 i (by rw [List.length_range]; exact hi)
    rw [range_take _ _ (by omega), List.getElem_range] at hit
    have hcl := cutN_len l order n i N hi ll2
    have hmul : (i + 1) * n ≤ N * n := Nat.mul_le_mul_right n hi
    have hNn : N * n = block := by rw [Nat.mul_comm]; exact dv
    have hin : i * n + n = (i + 1) * n := by rw [Nat.add_mul, Nat.one_mul]
    have hpe := part_eq all _ (4 + m) (ps.getD i 0) (es.getD i 0) (cutN l order n i) hit (pt i hi) (by rw [hcl]; omega) hb
    rw [hcl] at hpe
    unfold LQ.rDec.l0
    dsimp only
    have wN : w64 ((1 : Int) * p2 (ro : Int) 64) = (N : Int) := by rw [p2_nat _ _ (by omega), hNN, w64_id (by omega)]; omega
    rw [wN, Tr.run_br, decide_eq_true (by omega), cond_true, Tr.run_need _ (by omega), Tr.run_bind]
    refine (bindT (a := ((((i + 1) * n - order - (i * n - order) : Nat) : Int), (((a + 2 + 4 + ((List.range i).flatMap (ptG m ps es l order n)).length : Nat) : Int), pk all), ((0 : Int), (0 : Int)), ((m : Int), (ro : Int)), l.take (i * n - order), ps.take i, es.take i)) (by
      rw [Tr.run_br, p2_nat _ _ (by omega), hNN, hdiv]
      by_cases h0 : i = 0
      · subst h0
        rw [show (((0 : Nat) : Int) == 0) = true from rfl, cond_true, Tr.run_ret, w64_id (by omega), show (n : Int) - (order : Int) = (((0 + 1) * n - order - (0 * n - order) : Nat) : Int) by omega]
      · have h1 : 1 * n ≤ i * n := Nat.mul_le_mul_right n (by omega)
        rw [show ((i : Int) == 0) = false from beq_eq_false_iff_ne.2 (by omega), cond_false, Tr.run_ret, show ((n : Nat) : Int) = (((i + 1) * n - order - (i * n - order) : Nat) : Int) by omega])).trans ?_
    dsimp only
    have w4 : w64 ((4 : Int) + (m : Int)) = ((4 + m : Nat) : Int) := by rw [w64_id (by omega)]; omega
    rw [w4, Tr.run_bind]
    refine (bindT hpe).trans ?_
    dsimp only
    have lt1 : (l.take (i * n - order)).length ≤ 65535 := by rw [List.length_take]; omega
    rw [Bool.not_true, Tr.run_br, cond_false, Tr.run_need _ (by rw [hcl]; omega), Tr.run_need _ (by simp only [List.length_take, List.length_set, List.length_replicate]; omega), Tr.run_need _ (by simp only [List.length_take, List.length_set, List.length_replicate]; omega), Tr.run_ret, w64_id (x := (i : Int) + 1) (by omega), ← cutN_take]
    have ep : ps.take (i + 1) = ps.take i ++ [ps.getD i 0] := by rw [List.take_succ_eq_append_getElem (by omega), getD_lt _ _ (by omega)]
    have ee : es.take (i + 1) = es.take i ++ [es.getD i 0] := by rw [List.take_succ_eq_append_getElem (by omega), getD_lt _ _ (by omega)]
    have ef : ((List.range (i + 1)).flatMap (ptG m ps es l order n)).length = ((List.range i).flatMap (ptG m ps es l order n)).length + (ptG m ps es l order n i).length := by
      rw [List.range_succ, List.flatMap_append, List.length_append]; simp
    rw [ep, ee, ef, ← Nat.add_assoc (a + 2 + 4)]
    rfl) (by
    unfold LQ.rDec.l0
    dsimp only
    have wN : w64 ((1 : Int) * p2 (ro : Int) 64) = (N : Int) := by rw [p2_nat _ _ (by omega), hNN, w64_id (by omega)]; omega
    rw [wN, Tr.run_br, decide_eq_false (by omega), cond_false, Tr.run_ret, ← ll2, List.take_of_length_le (Nat.le_refl _), List.take_of_length_le (by omega), List.take_of_length_le (by omega)])
  rw [Nat.zero_mul, Nat.zero_sub] at hlo
  simp only [List.range_zero, List.flatMap_nil, List.length_nil, Nat.add_zero, List.take_zero] at hlo
  refine (bindT hlo).trans ?_
  rw [Tr.run_csr, Tr.run_ret]
  dsimp only
  rw [List.length_append, List.length_append, bitsOf_len, bitsOf_len, ← Nat.add_assoc, ← Nat.add_assoc]
end Go.Proofs.Ytfblaicifdgfiaa.Dg
end

section
set_option linter.unusedVariables false
set_option linter.unusedSimpArgs false
set_option maxRecDepth 10000
namespace Go.Proofs.Ytfblaicifdgfiaa.Dg
open Go.LM
theorem mask32 (n : Nat) (hn : n < 4294967296) : Go.IntKind.u64.wrap (bitsI Go.BinOp.and Go.IntKind.u64 (n : Int) (4294967295 : Int)) = (n : Int) := by
  have h2 : (BitVec.ofInt 64 (4294967295 : Int)) = BitVec.ofNat 64 (2 ^ 32 - 1) := by decide
  have key : (BitVec.ofNat 64 n &&& BitVec.ofNat 64 (2 ^ 32 - 1)).toNat = n := by
    rw [BitVec.toNat_and, BitVec.toNat_ofNat, BitVec.toNat_ofNat, Nat.mod_eq_of_lt (by omega), Nat.mod_eq_of_lt (by decide), Nat.and_two_pow_sub_one_eq_mod, Nat.mod_eq_of_lt (by omega)]
  rw [← ofInt_nat, ← h2] at key
  have : bitsI Go.BinOp.and Go.IntKind.u64 (n : Int) (4294967295 : Int) = (n : Int) := congrArg (fun x : Nat => (x : Int)) key
  rw [this, u64_id (by omega)]
theorem bMul1 (c : Nat) (hc : c ≤ 65535) : LQ.bMul 1 (c : Int) = some (0, (c : Int)) := by
  have m1 := mask32 1 (by decide)
  have mc := mask32 c (by omega)
  have m0 := mask32 0 (by decide)
  have a1 : (1 : Int) / 4294967296 = 0 := by decide
  have a2 : (c : Int) / 4294967296 = 0 := by omega
  have wc : Go.IntKind.u64.wrap (c : Int) = (c : Int) := u64_id (by omega)
  have w0 : Go.IntKind.u64.wrap (0 : Int) = 0 := u64_id (by omega)
  unfold LQ.bMul LQ.bMul.t LQ.Mul64 LQ.Mul64.t
  rw [Tr.run_ret, Tr.run_bind, someBind, Tr.run_ret]
  have m1' : Go.IntKind.u64.wrap (bitsI Go.BinOp.and Go.IntKind.u64 (1 : Int) (4294967295 : Int)) = 1 := m1
  have m0' : Go.IntKind.u64.wrap (bitsI Go.BinOp.and Go.IntKind.u64 (0 : Int) (4294967295 : Int)) = 0 := m0
  simp only [a1, a2, mc, m1', Int.zero_mul, Int.one_mul, Int.mul_zero, wc, w0, Int.zero_add, Int.add_zero, m0', Int.zero_ediv]
theorem RepI_eq (x : Int) (c : Nat) (h1 : 1 ≤ c) (hc : c ≤ 65535) : LQ.RepI [x] (c : Int) = some (List.replicate c x) := by
  have hloop : ∀ d n, c - n = d → 1 ≤ n → n ≤ c → loopO (fun (d : Int × List Int) ↦ (LQ.RepI.l0 d.fst d.snd).run) ((n : Int), List.replicate n x ++ List.replicate (c - n) 0) = some (List.replicate c x) := by
    intro d
    induction d using Nat.strongRecOn with
    | ind d ih =>
      intro n hd hn hnc
      have hlen : (List.replicate n x ++ List.replicate (c - n) (0 : Int)).length = c := by simp; omega
      by_cases he : n = c
      · subst he
        refine loopO_done ?_
        unfold LQ.RepI.l0
        dsimp only
        rw [Tr.run_br, decide_eq_false (by rw [hlen]; simp only [Int.ofNat_eq_natCast]; omega), cond_false, Tr.run_ret, Nat.sub_self, List.replicate_zero, List.append_nil]
      · have htk : (List.replicate n x ++ List.replicate (c - n) (0 : Int)).take n = List.replicate n x := List.take_left' (by simp)
        have hdr : (List.replicate n x ++ List.replicate (c - n) (0 : Int)).drop (n + min n (c - n)) = List.replicate (c - (n + min n (c - n))) 0 := by
          rw [List.drop_append, List.drop_of_length_le (by simp), List.nil_append, List.length_replicate, List.drop_replicate]
          congr 1; omega
        rw [loopO_next (d' := (((n + min n (c - n) : Nat) : Int), List.replicate (n + min n (c - n)) x ++ List.replicate (c - (n + min n (c - n))) 0)) ?_]
        · exact ih (c - (n + min n (c - n))) (by omega) _ rfl (by omega) (by omega)
        · unfold LQ.RepI.l0
          dsimp only
          rw [Tr.run_br, hlen, decide_eq_true (by simp only [Int.ofNat_eq_natCast]; omega), cond_true, Tr.run_need _ (by simp only [Int.ofNat_eq_natCast]; omega), Tr.run_need _ (by simp only [Int.ofNat_eq_natCast]; omega), Tr.run_ret]
          have e1 : ((n : Int) - 0).toNat = n := by omega
          have e2 : (Int.ofNat c - (n : Int)).toNat = c - n := by simp only [Int.ofNat_eq_natCast]; omega
          rw [e1, e2, List.drop_zero, Int.toNat_natCast, htk, List.length_replicate, hdr, List.take_replicate]
          have e3 : w64 ((n : Int) + Int.ofNat (min n (c - n))) = ((n + min n (c - n) : Nat) : Int) := by
            simp only [Int.ofNat_eq_natCast]
            rw [w64_id (by omega)]; omega
          rw [e3, ← List.append_assoc, List.replicate_append_replicate, Nat.min_comm (c - n) n]
  unfold LQ.RepI LQ.RepI.t
  have wx : Go.IntKind.u64.wrap (Int.ofNat [x].length) = 1 := (show Go.IntKind.u64.wrap (1 : Int) = 1 from u64_id (by decide))
  have wc : Go.IntKind.u64.wrap (c : Int) = (c : Int) := u64_id (by omega)
  rw [Tr.run_br, decide_eq_false (by omega), cond_false, Tr.run_bind, wx, wc, bMul1 c hc, someBind, Tr.run_bind]
  dsimp only
  rw [Tr.run_br, show decide ((0 : Int) > 0) = false from rfl, cond_false, Tr.run_ret, someBind, decide_eq_false (by omega), Tr.run_br, cond_false, w64_id (x := (c : Int)) (by omega), Tr.run_need _ (by omega), Tr.run_bind]
  have h := hloop (c - 1) 1 rfl (by decide) h1
  refine (bindT (a := List.replicate c x) ?_).trans rfl
  refine Eq.trans (congrArg _ ?_) h
  rw [Int.toNat_natCast, List.length_replicate]
  have e1 : (Int.ofNat c - 0).toNat = c := by simp
  rw [e1, List.take_zero, List.nil_append]
  have e2 : min [x].length c = 1 := by simp; omega
  rw [e2, Nat.zero_add, List.drop_replicate, List.take_of_length_le (by simp; omega)]
  rfl
theorem ConG_eq (s : List Int) (W k o pr sf m ro : Int) (wst w : Nat) (cs ps es : List Int) (hw : W = ((wst + w : Nat) : Int)) (h1 : 1 ≤ w) (h2 : w ≤ 33) (hwst : wst ≤ 33) (hf : ∀ n ∈ s, fitsW w n) (hl : s.length ≤ 1048576) :
    LQ.ConG s W k o (wst : Int) pr sf cs m ro ps es = some (false, W, k, o, (wst : Int), pr, sf, cs, m, ro, ps, es) := by
  have hdec : ∀ n, fitsW w n → LQ.dec1 n W k o (wst : Int) pr sf cs m ro ps es = some (false, W, k, o, (wst : Int), pr, sf, cs, m, ro, ps, es) := fun n hn => by
    have hww : w64 (W - (wst : Int)) = (w : Int) := by rw [hw, w64_id (by omega)]; omega
    unfold LQ.dec1 LQ.dec1.t
    rw [Tr.run_bind, hww, sfits_eq n w h1 (by omega) hn]; rfl
  have hlo := loopO_steps (f := fun (d : Int × Int × Int × Int × Int × Int × Int × List Int × Int × Int × List Int × List Int) ↦ (LQ.IdxG.l0 s d.fst d.snd.fst d.snd.snd.fst d.snd.snd.snd.fst d.snd.snd.snd.snd.fst d.snd.snd.snd.snd.snd.fst d.snd.snd.snd.snd.snd.snd.fst d.snd.snd.snd.snd.snd.snd.snd.fst d.snd.snd.snd.snd.snd.snd.snd.snd.fst d.snd.snd.snd.snd.snd.snd.snd.snd.snd.fst d.snd.snd.snd.snd.snd.snd.snd.snd.snd.snd.fst d.snd.snd.snd.snd.snd.snd.snd.snd.snd.snd.snd).run)
    (fun i => ((i : Int), W, k, o, (wst : Int), pr, sf, cs, m, ro, ps, es)) (r := .inr (W, k, o, (wst : Int), pr, sf, cs, m, ro, ps, es)) s.length (fun i hi => by
      have hd := hdec (s.getD i 0) (hf _ (by rw [getD_lt _ _ hi]; exact List.getElem_mem hi))
      unfold LQ.IdxG.l0
      dsimp only
      rw [Tr.run_br, decide_eq_true (by simp only [Int.ofNat_eq_natCast]; omega), cond_true, Tr.run_need _ (by simp only [Int.ofNat_eq_natCast]; omega), Tr.run_bind, Int.toNat_natCast, hd, someBind, Tr.run_br, cond_false, Tr.run_ret, w64_id (by omega)]
      rfl) (by
      unfold LQ.IdxG.l0
      dsimp only
      rw [Tr.run_br, decide_eq_false (by simp only [Int.ofNat_eq_natCast]; omega), cond_false, Tr.run_ret])
  unfold LQ.ConG LQ.ConG.t LQ.IdxG LQ.IdxG.t
  rw [Tr.run_bind, Tr.run_bind]
  refine (congrArg (fun x => Option.bind x _) (bindT hlo)).trans ?_
  rfl
theorem rInts_self (l : List Int) (hl : l.length ≤ 1048576) : LQ.rInts l l = some true := by
  have hlo := loopO_steps (f := fun (d : Int) ↦ (LQ.rInts.l0 l l d).run) (fun i => (i : Int)) (r := .inr ()) l.length (fun i hi => by
      unfold LQ.rInts.l0
      rw [Tr.run_br, decide_eq_true (by simp only [Int.ofNat_eq_natCast]; omega), cond_true, Tr.run_need _ (by simp only [Int.ofNat_eq_natCast]; omega), Tr.run_need _ (by simp only [Int.ofNat_eq_natCast]; omega), bne_self_eq_false, Tr.run_br, cond_false, Tr.run_ret, w64_id (by omega)]
      rfl) (by
      unfold LQ.rInts.l0
      rw [Tr.run_br, decide_eq_false (by simp only [Int.ofNat_eq_natCast]; omega), cond_false, Tr.run_ret])
  unfold LQ.rInts LQ.rInts.t
  rw [bne_self_eq_false, Tr.run_br, cond_false, Tr.run_bind]
  refine (bindT hlo).trans ?_
  rfl
theorem coefs_eq (all : List Bool) (a k o wst pr sf : Nat) (m ro : Int) (cs ps es : List Int) (x y : Int) (z : List Int) (h : Bat all a (bitsOf (pr - 1) 4 ++ (bitsOf sf 5 ++ sgBits pr cs))) (hp1 : 1 ≤ pr) (hp2 : pr ≤ 15) (hs : sf ≤ 15) (hc : ∀ c ∈ cs, fitsW pr c) (ho : cs.length = o) (ho2 : o ≤ 32) (hb : all.length ≤ 1099511627776) :
    LQ.coefs ((a : Int), pk all) (k : Int) (o : Int) (wst : Int) x y z m ro ps es = some (true, (((a + 9 + o * pr : Nat) : Int), pk all), (k : Int), (o : Int), (wst : Int), (pr : Int), (sf : Int), cs, m, ro, ps, es) := by
  have hg1 := Get_eq all _ a 4 h.left (bitsOf_len _ _) (by decide) hb
  rw [valB_bitsOf, Nat.mod_eq_of_lt (by omega)] at hg1
  have hr := h.right
  rw [bitsOf_len] at hr
  have hg2 := Get_eq all _ (a + 4) 5 hr.left (bitsOf_len _ _) (by decide) hb
  rw [valB_bitsOf, Nat.mod_eq_of_lt (by omega)] at hg2
  have hr2 := hr.right
  rw [bitsOf_len] at hr2
  have hn := numbers_eq all (a + 4 + 5) pr cs hr2 hp1 (by omega) hc (by omega) hb
  rw [ho] at hn
  have w1 : w64 (w64 ((pr - 1 : Nat) : Int) + 1) = (pr : Int) := by rw [w64_id (x := ((pr - 1 : Nat) : Int)) (by omega), w64_id (by omega)]; omega
  have w2 : w64 (sf : Int) = (sf : Int) := w64_id (by omega)
  unfold LQ.coefs LQ.coefs.t
  dsimp only
  rw [Tr.run_bind]
  refine (bindT hg1).trans ?_
  dsimp only
  rw [Tr.run_bind]
  refine (bindT hg2).trans ?_
  dsimp only
  rw [Tr.run_bind]
  refine (bindT (a := (false, (((a + 4 + 5 : Nat) : Int), pk all), (k : Int), (o : Int), (wst : Int), x, y, z, m, ro, ps, es)) (by
    rw [Tr.run_br, show ((0 : Int) != 0) = false from rfl, cond_false, Tr.run_br, cond_false, Tr.run_br, show (((pr - 1 : Nat) : Int) == 15) = false from beq_eq_false_iff_ne.2 (by omega), cond_false, Tr.run_ret, decide_eq_false (by omega)])).trans ?_
  dsimp only
  rw [Tr.run_br, cond_false, Tr.run_bind, w1, w2]
  refine (bindT hn).trans ?_
  rfl
end Go.Proofs.Ytfblaicifdgfiaa.Dg
end

