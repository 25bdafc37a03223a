/- RfQb: RfN RfO RfR RfT RfU RfV. -/
import Derived.Test.YtjjeohcohhhcpaaLmH
import Derived.Test.YtjjeohcohhhcpaaRfQa
import Derived.Test.YtjjeohcohhhcpaaRfL
import Derived.Test.YtjjeohcohhhcpaaRpa
section
set_option linter.unusedVariables false
set_option linter.unusedSimpArgs false
namespace Go.LM
abbrev PcmD := Int × Int × Int × List (List Int) × PUnit
def zPc : PcmD := (0, 0, 0, [], ())
def pieceL (s : List UInt8) (at_ n : Nat) : Nat := leV ((s.drop at_).take n)
def guidV : List UInt8 := [1, 0, 0, 0, 0, 0, 16, 0, 128, 0, 0, 170, 0, 56, 155, 113]
def FmtP (s : List UInt8) : Prop :=
  ((pieceL s 0 2 = 1 ∧ (s.length = 16 ∨ s.length = 18)) ∨ (pieceL s 0 2 = 65534 ∧ s.length = 40)) ∧
  (1 ≤ pieceL s 2 2 ∧ pieceL s 2 2 ≤ 8 ∧ 1 ≤ pieceL s 4 4 ∧ pieceL s 4 4 ≤ 655350 ∧ 1 ≤ pieceL s 14 2 ∧ pieceL s 14 2 ≤ 32 ∧ pieceL s 14 2 % 8 = 0) ∧
  (pieceL s 12 2 = pieceL s 2 2 * pieceL s 14 2 / 8 ∧ pieceL s 8 4 = pieceL s 2 2 * pieceL s 14 2 / 8 * pieceL s 4 4) ∧
  (s.length = 16 ∨ s.length = pieceL s 16 2 + 18) ∧ (s.length ≠ 40 ∨ (pieceL s 18 2 = pieceL s 14 2 ∧ s.drop 24 = guidV))
instance (s : List UInt8) : Decidable (FmtP s) := by unfold FmtP; infer_instance
abbrev RdD := Int × Bool × Int × Int × (Bool × PcmD) × Bool × List UInt8
def dsV : List UInt8 := [100, 115, 54, 52]
def fmV : List UInt8 := [102, 109, 116, 32]
def daV : List UInt8 := [100, 97, 116, 97]
def fmtOK (s : List UInt8) : Bool := decide (FmtP s)
end Go.LM
namespace Go.Proofs.Ytjjeohcohhhcpaa.Dg
open Go.LM
theorem le_eq (s : List UInt8) (a n : Nat) (h : a + n ≤ s.length) (hn : n < 8) (hs : s.length ≤ 1099511627776) : LQ.le s a n = some ((pieceL s a n : Nat) : Int) := by
  unfold LQ.le LQ.le.t pieceL
  rw [w64_id (by omega), Tr.run_need _ (by simp only [Int.ofNat_eq_natCast]; omega), show ((a : Int) + (n : Int) - (a : Int)).toNat = n by omega, Int.toNat_natCast, Tr.run_bind, bFromLe_eq _ (by rw [List.length_take]; omega)]
  rfl
theorem pieceL_lt (s : List UInt8) (a n : Nat) : pieceL s a n < 256 ^ n := by
  unfold pieceL
  refine Nat.lt_of_lt_of_le (leV_lt _) (pow256_le ?_)
  rw [List.length_take]; omega
theorem format_eq (s : List UInt8) (hs : s.length ≤ 1099511627776) : ∃ e : Int, e ≠ 0 ∧ LQ.format s = some (bif fmtOK s then ((((pieceL s 4 4 : Nat) : Int), ((pieceL s 2 2 : Nat) : Int), ((pieceL s 14 2 : Nat) : Int), ([] : List (List Int)), ()), (0 : Int)) else (zPc, e)) := by
  have bad : ∀ e : Int, e ≠ 0 → LQ.format s = some (zPc, e) → ¬ FmtP s → ∃ e : Int, e ≠ 0 ∧ LQ.format s = some (bif fmtOK s then ((((pieceL s 4 4 : Nat) : Int), ((pieceL s 2 2 : Nat) : Int), ((pieceL s 14 2 : Nat) : Int), ([] : List (List Int)), ()), (0 : Int)) else (zPc, e)) := fun e he h hn => by
    refine ⟨e, he, ?_⟩
    rw [h, show fmtOK s = false from decide_eq_false hn]; rfl
  by_cases h16 : s.length < 16
  · refine bad 2 (by decide) ?_ (fun h => by have := h.1; omega)
    unfold LQ.format LQ.format.t
    rw [Tr.run_br, decide_eq_true (by simp only [Int.ofNat_eq_natCast]; omega)]; rfl
  have l0 := le_eq s 0 2 (by omega) (by omega) hs
  have l2 := le_eq s 2 2 (by omega) (by omega) hs
  have l4 := le_eq s 4 4 (by omega) (by omega) hs
  have l8 := le_eq s 8 4 (by omega) (by omega) hs
  have l12 := le_eq s 12 2 (by omega) (by omega) hs
  have l14 := le_eq s 14 2 (by omega) (by omega) hs
  have b2 := pieceL_lt s 2 2
  have b4 := pieceL_lt s 4 4
  have b14 := pieceL_lt s 14 2
  simp only [Int.cast_ofNat_Int] at l0 l2 l4 l8 l12 l14
  have key : LQ.format s = LQ.format s := rfl
  conv at key => rhs; unfold LQ.format LQ.format.t
  rw [Tr.run_br, decide_eq_false (by simp only [Int.ofNat_eq_natCast]; omega), cond_false] at key
  simp only [Tr.run_bind, l0, l2, l4, l8, l12, l14, someBind, Tr.run_br, Tr.run_ret, bifSome, bifPair, bifSame, bifOr1, bifOr2, bifAnd, bifNot] at key
  have hF : FmtP s ↔ FmtP s := Iff.rfl
  conv at hF => rhs; unfold FmtP
  generalize pieceL s 0 2 = T at *
  generalize pieceL s 2 2 = C at *
  generalize pieceL s 4 4 = R at *
  generalize pieceL s 8 4 = B at *
  generalize pieceL s 12 2 = K at *
  generalize pieceL s 14 2 = W at *
  have c1 : ((T : Int) != 1 && (T : Int) != 65534) = decide (T ≠ 1 ∧ T ≠ 65534) := by
    rw [Bool.eq_iff_iff, Bool.and_eq_true, decide_eq_true_eq, bne_iff_ne, bne_iff_ne]; omega
  rw [c1] at key
  by_cases h1 : T ≠ 1 ∧ T ≠ 65534
  · rw [decide_eq_true h1, cond_true] at key
    exact bad 3 (by decide) key (fun h => by have := (hF.1 h).1; omega)
  rw [decide_eq_false h1, cond_false] at key
  have c2 : ((T : Int) == 1 && (Int.ofNat s.length != 16 && Int.ofNat s.length != 18) || ((T : Int) != 1 && Int.ofNat s.length != 40 || ((C : Int) == 0 || ((R : Int) == 0 || (W : Int) == 0)))) = decide ((T = 1 ∧ s.length ≠ 16 ∧ s.length ≠ 18) ∨ (T ≠ 1 ∧ s.length ≠ 40) ∨ C = 0 ∨ R = 0 ∨ W = 0) := by
    rw [Bool.eq_iff_iff]; simp only [Bool.or_eq_true, Bool.and_eq_true, decide_eq_true_eq, bne_iff_ne, beq_iff_eq, Int.ofNat_eq_natCast, ne_eq]; omega
  rw [c2] at key
  by_cases h2 : (T = 1 ∧ s.length ≠ 16 ∧ s.length ≠ 18) ∨ (T ≠ 1 ∧ s.length ≠ 40) ∨ C = 0 ∨ R = 0 ∨ W = 0
  · rw [decide_eq_true h2, cond_true] at key
    exact bad 2 (by decide) key (fun h => by obtain ⟨a, b, _⟩ := hF.1 h; omega)
  rw [decide_eq_false h2, cond_false] at key
  have c3 : (decide ((C : Int) > 8) || (decide ((R : Int) > 655350) || ((W : Int).tmod 8 != 0 || decide ((W : Int) > 32)))) = decide (C > 8 ∨ R > 655350 ∨ W % 8 ≠ 0 ∨ W > 32) := by
    rw [Bool.eq_iff_iff, Int.tmod_eq_emod_of_nonneg (by omega)]; simp only [Bool.or_eq_true, Bool.and_eq_true, decide_eq_true_eq, bne_iff_ne, beq_iff_eq, Int.ofNat_eq_natCast, ne_eq]; omega
  rw [c3] at key
  by_cases h3 : C > 8 ∨ R > 655350 ∨ W % 8 ≠ 0 ∨ W > 32
  · rw [decide_eq_true h3, cond_true] at key
    exact bad 3 (by decide) key (fun h => by obtain ⟨a, b, _⟩ := hF.1 h; omega)
  rw [decide_eq_false h3, cond_false] at key
  have e1 : w64 ((w64 ((C : Int) * (W : Int))).tdiv 8) = ((C * W / 8 : Nat) : Int) := by
    have : C * W ≤ 8 * 32 := Nat.mul_le_mul (by omega) (by omega)
    rw [w64_id (x := (C : Int) * (W : Int)) (by constructor <;> · rw [← Int.natCast_mul]; omega), ← Int.natCast_mul, Int.tdiv_eq_ediv_of_nonneg (by omega), w64_id (by omega)]; omega
  have hK : C * W / 8 ≤ 32 := by
    have : C * W ≤ 8 * 32 := Nat.mul_le_mul (by omega) (by omega)
    omega
  have hKR : C * W / 8 * R ≤ 32 * 655350 := Nat.mul_le_mul hK (by omega)
  rw [e1] at key
  generalize C * W / 8 = Q at *
  have e2 : w64 ((Q : Int) * (R : Int)) = ((Q * R : Nat) : Int) := by rw [← Int.natCast_mul, w64_id (by omega)]
  rw [e2] at key
  generalize Q * R = Z at *
  have c4 : ((K : Int) != (Q : Int) || (B : Int) != (Z : Int)) = decide (K ≠ Q ∨ B ≠ Z) := by
    rw [Bool.eq_iff_iff]; simp only [Bool.or_eq_true, decide_eq_true_eq, bne_iff_ne, ne_eq]; omega
  rw [c4] at key
  by_cases h4 : K ≠ Q ∨ B ≠ Z
  · rw [decide_eq_true h4, cond_true] at key
    exact bad 2 (by decide) key (fun h => by obtain ⟨a, b, c, _⟩ := hF.1 h; omega)
  rw [decide_eq_false h4, cond_false] at key
  have hl : s.length = 16 ∨ s.length = 18 ∨ s.length = 40 := by omega
  have good : FmtP s → LQ.format s = some (((R : Int), (C : Int), (W : Int), [], ()), 0) → ∃ e : Int, e ≠ 0 ∧ LQ.format s = some (bif fmtOK s then (((R : Int), (C : Int), (W : Int), ([] : List (List Int)), ()), (0 : Int)) else (zPc, e)) := fun hp h => by
    refine ⟨1, by decide, ?_⟩
    rw [h, show fmtOK s = true from decide_eq_true hp]; rfl
  by_cases hlen : s.length = 16
  · simp only [hlen, Int.ofNat_eq_natCast, Int.cast_ofNat_Int, show decide ((16 : Int) > 16) = false from rfl, show ((16 : Int) == 40) = false from rfl, cond_false, someBind] at key
    refine good (hF.2 ⟨by omega, by omega, by omega, by omega, by omega⟩) key
  · have l16 := le_eq s 16 2 (by omega) (by omega) hs
    have l18 := fun h => le_eq s 18 2 h (by omega) hs
    simp only [Int.cast_ofNat_Int] at l16 l18
    rw [l16, decide_eq_true (by simp only [Int.ofNat_eq_natCast]; omega), cond_true, someBind, someBind, w64_id (by simp only [Int.ofNat_eq_natCast]; omega)] at key
    have c5 : (((pieceL s 16 2 : Nat) : Int) != Int.ofNat s.length - 18) = decide (s.length ≠ pieceL s 16 2 + 18) := by
      rw [Bool.eq_iff_iff]; simp only [decide_eq_true_eq, bne_iff_ne, ne_eq, Int.ofNat_eq_natCast]; omega
    simp only [c5] at key
    by_cases h5 : s.length ≠ pieceL s 16 2 + 18
    · simp only [decide_eq_true h5, cond_true] at key
      exact bad 2 (by decide) key (fun h => by obtain ⟨a, b, c, d, _⟩ := hF.1 h; omega)
    simp only [decide_eq_false h5, cond_false] at key
    by_cases h40 : s.length = 40
    · have l18 := l18 (by omega)
      have ht : List.take (Int.ofNat s.length - 24).toNat (s.drop 24) = s.drop 24 := List.take_of_length_le (by rw [List.length_drop]; simp only [Int.ofNat_eq_natCast]; omega)
      rw [l18, someBind, Tr.run_need _ (by simp only [Int.ofNat_eq_natCast]; omega), ht, show (Int.ofNat s.length == 40) = true by simp only [Int.ofNat_eq_natCast, beq_iff_eq]; omega, cond_true] at key
      simp only [Tr.run_ret, bifSome, bifPair, bifSame, bifOr1, bifOr2, bifAnd, bifNot, someBind] at key
      have c6 : ((((pieceL s 18 2 : Nat) : Int) != (W : Int)) || !s.drop 24 == [1, 0, 0, 0, 0, 0, 16, 0, 128, 0, 0, 170, 0, 56, 155, 113]) = decide (¬ (pieceL s 18 2 = W ∧ s.drop 24 = guidV)) := by
        have hA : (((pieceL s 18 2 : Nat) : Int) != (W : Int)) = !decide (pieceL s 18 2 = W) := by
          rw [Bool.eq_iff_iff]; simp only [bne_iff_ne, ne_eq, Bool.not_eq_true', decide_eq_false_iff_not]; omega
        have hB : (s.drop 24 == ([1, 0, 0, 0, 0, 0, 16, 0, 128, 0, 0, 170, 0, 56, 155, 113] : List UInt8)) = decide (s.drop 24 = guidV) := by
          rw [Bool.eq_iff_iff, beq_iff_eq, decide_eq_true_eq]; rfl
        rw [hA, hB]
        by_cases q1 : pieceL s 18 2 = W <;> by_cases q2 : s.drop 24 = guidV <;> simp [q1, q2]
      rw [c6] at key
      by_cases h6 : pieceL s 18 2 = W ∧ s.drop 24 = guidV
      · rw [decide_eq_false (fun h => h h6)] at key
        exact good (hF.2 ⟨by omega, by omega, by omega, by omega, .inr h6⟩) key
      · rw [decide_eq_true h6] at key
        exact bad 3 (by decide) key (fun h => by obtain ⟨a, b, c, d, e⟩ := hF.1 h; rcases e with e | e; exact e h40; exact h6 e)
    · rw [show (Int.ofNat s.length == 40) = false by simp only [Int.ofNat_eq_natCast, beq_eq_false_iff_ne, ne_eq]; omega, cond_false, someBind] at key
      exact good (hF.2 ⟨by omega, by omega, by omega, by omega, .inl h40⟩) key
theorem bFromBe_ex (s : List UInt8) (h : s.length ≤ 1099511627776) : ∃ v, LQ.bytes_FromBe s = some v := by
  unfold LQ.bytes_FromBe LQ.bytes_FromBe.t
  rw [Tr.run_br]
  cases hd : decide (Int.ofNat s.length > 8) with
  | true => exact ⟨_, rfl⟩
  | false =>
    rw [cond_false, Tr.run_bind]
    obtain ⟨r, h1, _⟩ := loopI (f := fun (d : Int × Int) ↦ (LQ.bytes_FromBe.l0 s d.fst d.snd).run) (fun k d => d.2 = (k : Int)) (fun _ => True) s.length (fun k hk d hP => by
      obtain ⟨a, b⟩ := d
      simp only at hP
      subst hP
      simp only [LQ.bytes_FromBe.l0]
      rw [Tr.run_br, decide_eq_true (by simp only [Int.ofNat_eq_natCast]; omega), cond_true, Tr.run_need _ (by simp only [Int.ofNat_eq_natCast]; omega), Tr.run_ret]
      exact ⟨_, rfl, by show w64 _ = _; rw [w64_id (by omega)]; omega⟩) (fun d hP => by
      obtain ⟨a, b⟩ := d
      simp only at hP
      subst hP
      simp only [LQ.bytes_FromBe.l0]
      rw [Tr.run_br, decide_eq_false (by simp only [Int.ofNat_eq_natCast]; omega), cond_false, Tr.run_ret]
      exact ⟨_, rfl, trivial⟩) s.length 0 (by omega) ((0 : Int), (0 : Int)) rfl
    refine ⟨bif decide (r ≥ 9223372036854775808) then (-1 : Int) else w64 r, (congrArg (fun o => Option.bind o _) h1).trans ?_⟩
    rw [someBind, Tr.run_br, Tr.run_ret, Tr.run_ret, bifSome]
theorem le_ex (s : List UInt8) (a n : Nat) (h : a + n ≤ s.length) (hs : s.length ≤ 1099511627776) : ∃ v, LQ.le s a n = some v := by
  unfold LQ.le LQ.le.t
  rw [w64_id (by omega), Tr.run_need _ (by simp only [Int.ofNat_eq_natCast]; omega), Tr.run_bind]
  unfold LQ.bytes_FromLe LQ.bytes_FromLe.t
  have hl : ((List.drop (a : Int).toNat s).take ((a : Int) + (n : Int) - (a : Int)).toNat).length ≤ 1099511627776 := by rw [List.length_take, List.length_drop]; omega
  generalize (List.drop (a : Int).toNat s).take ((a : Int) + (n : Int) - (a : Int)).toNat = t at hl ⊢
  obtain ⟨v, hv⟩ := bFromBe_ex t.reverse (by rw [List.length_reverse]; exact hl)
  rw [Tr.run_bind, turn_eq t (by omega), Option.bind_some, Tr.run_bind, hv]
  exact ⟨v, rfl⟩
theorem sizes_ex (c : ChunkD) (R : RdD) (sk : List ChunkD) (h : c.2.1.length ≤ 1099511627776) : ∃ e l m, LQ.sizes c R sk = some (e, (R.1, R.2.1, l, m, R.2.2.2.2), sk) ∧ (e = 0 → c.1 = dsV) := by
  obtain ⟨id, b, pad, u⟩ := c
  obtain ⟨size, rf, lo, sm, ⟨fb, fp⟩, db, dd⟩ := R
  simp only at h ⊢
  have key : LQ.sizes (id, b, pad, u) (size, rf, lo, sm, (fb, fp), db, dd) sk = LQ.sizes (id, b, pad, u) (size, rf, lo, sm, (fb, fp), db, dd) sk := rfl
  conv at key => rhs; unfold LQ.sizes LQ.sizes.t
  simp only [Tr.run_bind, Tr.run_br, Tr.run_ret, someBind] at key
  cases h1 : (!id == [100, 115, 54, 52]) with
  | true =>
    simp only [h1, cond_true, someBind] at key
    exact ⟨_, _, _, key, fun e => by cases e⟩
  | false =>
    have hid : id = dsV := by simpa [dsV] using h1
    simp only [h1, cond_false] at key
    cases h2 : (Int.ofNat b.length != 28) with
    | true =>
      simp only [h2, cond_true, someBind] at key
      exact ⟨_, _, _, key, fun e => by cases e⟩
    | false =>
      have hb : b.length = 28 := by simp only [bne_eq_false_iff_eq, Int.ofNat_eq_natCast] at h2; omega
      obtain ⟨v0, l0⟩ := le_ex b 0 8 (by omega) h
      obtain ⟨v8, l8⟩ := le_ex b 8 8 (by omega) h
      obtain ⟨v16, l16⟩ := le_ex b 16 8 (by omega) h
      obtain ⟨v24, l24⟩ := le_ex b 24 4 (by omega) h
      simp only [Int.cast_ofNat_Int] at l0 l8 l16 l24
      simp only [h2, cond_false, l0, l8, l16, l24, someBind] at key
      cases h3 : (v0 != w64 (size - 8)) with
      | true =>
        simp only [h3, cond_true, someBind] at key
        exact ⟨_, _, _, key, fun e => by cases e⟩
      | false =>
        simp only [h3, cond_false, someBind] at key
        cases h4 : (v24 != 0) with
        | true =>
          simp only [h4, cond_true, someBind] at key
          exact ⟨_, _, _, key, fun e => by cases e⟩
        | false =>
          simp only [h4, cond_false, someBind] at key
          cases h5 : decide (v8 < 0) with
          | true =>
            simp only [h5, cond_true, someBind] at key
            exact ⟨_, _, _, key, fun e => by cases e⟩
          | false =>
            simp only [h5, cond_false, someBind] at key
            cases h6 : decide (v16 < 0) with
            | true =>
              simp only [h6, cond_true, someBind] at key
              exact ⟨_, _, _, key, fun e => by cases e⟩
            | false =>
              simp only [h6, cond_false, someBind] at key
              exact ⟨_, _, _, key, fun _ => hid⟩
end Go.Proofs.Ytjjeohcohhhcpaa.Dg
end

section
set_option linter.unusedVariables false
set_option linter.unusedSimpArgs false
namespace Go.LM
def fmtPcm (b : List UInt8) : PcmD := (((pieceL b 4 4 : Nat) : Int), ((pieceL b 2 2 : Nat) : Int), ((pieceL b 14 2 : Nat) : Int), [], ())
end Go.LM
namespace Go.Proofs.Ytjjeohcohhhcpaa.Dg
open Go.LM
noncomputable def fmtV (b : List UInt8) : PcmD × Int := (LQ.format b).getD (zPc, 2)
theorem fmtV_eq (b : List UInt8) (hs : b.length ≤ 1099511627776) : LQ.format b = some (fmtV b) ∧ (fmtV b).1.2.2.2.1 = [] ∧ (fmtOK b = true → fmtV b = (fmtPcm b, 0)) ∧ ((fmtV b).2 = 0 → fmtOK b = true) := by
  obtain ⟨e, he, h⟩ := format_eq b hs
  unfold fmtV
  rw [h]
  cases hf : fmtOK b with
  | true => exact ⟨rfl, rfl, fun _ => rfl, fun _ => rfl⟩
  | false => exact ⟨rfl, rfl, (fun h => by cases h), (fun h => (he h).elim)⟩
noncomputable def chunkV (c : ChunkD) (R : RdD) : Int × RdD :=
  bif c.1 == dsV then (bif R.2.1 then (2, R) else (0, R)) else
  bif c.1 == fmV then (bif R.2.2.2.2.1.1 then (2, R) else ((fmtV c.2.1).2, R.1, R.2.1, R.2.2.1, R.2.2.2.1, (true, (fmtV c.2.1).1), R.2.2.2.2.2)) else
  bif c.1 == daV then (bif !R.2.2.2.2.1.1 || R.2.2.2.2.2.1 then (2, R) else (0, R.1, R.2.1, R.2.2.1, R.2.2.2.1, R.2.2.2.2.1, true, c.2.1)) else (0, R)
theorem chunk_eq (c : ChunkD) (R : RdD) (sk : List ChunkD) (h : (R.2.1 && Int.ofNat sk.length == 0) = false) (hs : c.2.1.length ≤ 1099511627776) : LQ.chunk c R sk = some ((chunkV c R).1, (chunkV c R).2, sk) := by
  obtain ⟨id, b, pad, u⟩ := c
  obtain ⟨size, rf, lo, sm, ⟨fb, fp⟩, db, dd⟩ := R
  have hf := (fmtV_eq b hs)
  unfold chunkV
  generalize hg : fmtV b = g at hf ⊢
  obtain ⟨⟨p1, p2, p3, p4, p5⟩, ge⟩ := g
  unfold LQ.chunk LQ.chunk.t
  simp only at h hf
  simp only [Tr.run_bind, Tr.run_br, Tr.run_ret, someBind, bifSome, bifPair, bifSame, bifOr1, bifOr2, bifAnd, bifNot, h, cond_false]
  simp only [dsV, fmV, daV]
  cases h1 : id == [100, 115, 54, 52] with
  | true => cases rf <;> rfl
  | false =>
    cases h2 : id == [102, 109, 116, 32] with
    | true =>
      cases fb with
      | true => rfl
      | false =>
        simp only [cond_false, cond_true, hf.1, someBind]
        rfl
    | false =>
      cases h3 : id == [100, 97, 116, 97] with
      | true => cases fb <;> cases db <;> rfl
      | false => rfl
theorem chunk_ds (c : ChunkD) (R : RdD) (sk : List ChunkD) (h : (R.2.1 && Int.ofNat sk.length == 0) = true) (hs : c.2.1.length ≤ 1099511627776) : ∃ e l m, LQ.chunk c R sk = some (e, (R.1, R.2.1, l, m, R.2.2.2.2), sk) ∧ (e = 0 → c.1 = dsV) := by
  obtain ⟨e, l, m, h1, h2⟩ := sizes_ex c R sk hs
  refine ⟨e, l, m, ?_, h2⟩
  obtain ⟨id, b, pad, u⟩ := c
  obtain ⟨size, rf, lo, sm, ⟨fb, fp⟩, db, dd⟩ := R
  unfold LQ.chunk LQ.chunk.t
  simp only at h h1
  simp only [Tr.run_bind, Tr.run_br, Tr.run_ret, someBind, bifSome, bifPair, bifSame, bifOr1, bifOr2, bifAnd, bifNot, h, cond_true]
  refine (congrArg (fun o => Option.bind o _) h1).trans ?_
  rfl
theorem chunk_ex (c : ChunkD) (R : RdD) (sk : List ChunkD) (hs : c.2.1.length ≤ 1099511627776) : ∃ e R', LQ.chunk c R sk = some (e, R', sk) := by
  cases h : (R.2.1 && Int.ofNat sk.length == 0) with
  | true =>
    obtain ⟨e, l, m, h1, _⟩ := chunk_ds c R sk h hs
    exact ⟨_, _, h1⟩
  | false => exact ⟨_, _, chunk_eq c R sk h hs⟩

/-- What 'next' takes for a length that stands elsewhere; none: the header is not all. -/
def ownV (s : List UInt8) (R : RdD) (sk : List ChunkD) : Option Int :=
  bif R.2.1 && (decide (0 < sk.length) && (decide (8 ≤ s.length) && s.take 4 == daV)) then (bif (s.drop 4).take 4 == [255, 255, 255, 255] then some R.2.2.1 else none) else some (-1)
/-- What is kept of a chunk. -/
def keepV (c : ChunkD) : ChunkD := (c.1, bif c.1 == daV then [] else c.2.1, c.2.2.1, ())
theorem own_if (s : List UInt8) (sk : List ChunkD) (rf : Bool) {α : Type} (x : α) : (bif rf then bif decide (Int.ofNat sk.length > 0) then bif decide (Int.ofNat s.length ≥ 8) then
      (Tr.need ((0 : Int) ≤ 0 ∧ (0 : Int) ≤ 4 ∧ (4 : Int) ≤ Int.ofNat s.length) (Tr.ret (List.take 4 (List.drop 0 s) == [100, 97, 116, 97], x))).run else some (false, x) else some (false, x) else some (false, x)) =
      some ((rf && (decide (0 < sk.length) && (decide (8 ≤ s.length) && s.take 4 == daV))), x) := by
  cases rf with
  | false => rfl
  | true =>
    rw [show decide (Int.ofNat sk.length > 0) = decide (0 < sk.length) by rw [decide_eq_decide]; simp only [Int.ofNat_eq_natCast]; omega, show decide (Int.ofNat s.length ≥ 8) = decide (8 ≤ s.length) by rw [decide_eq_decide]; simp only [Int.ofNat_eq_natCast]; omega]
    by_cases h1 : 0 < sk.length
    · rw [decide_eq_true h1]
      by_cases h2 : 8 ≤ s.length
      · rw [decide_eq_true h2, cond_true, cond_true, cond_true, Tr.run_need _ (by simp only [Int.ofNat_eq_natCast]; omega)]; rfl
      · rw [decide_eq_false h2]; rfl
    · rw [decide_eq_false h1]; rfl
theorem next_none (s : List UInt8) (R : RdD) (sk : List ChunkD) (ho : ownV s R sk = none) : LQ.next s R sk = some (([], 2), R, sk) := by
  obtain ⟨size, rf, lo, sm, ⟨fb, fp⟩, db, dd⟩ := R
  unfold LQ.next LQ.next.t
  unfold ownV at ho
  simp only [Tr.run_bind, Tr.run_br, Tr.run_ret, someBind, own_if] at ho ⊢
  cases hc : (rf && (decide (0 < sk.length) && (decide (8 ≤ s.length) && s.take 4 == daV))) with
  | false => rw [hc] at ho; cases ho
  | true =>
    rw [hc] at ho
    have h8 : 8 ≤ s.length := by simp only [Bool.and_eq_true, decide_eq_true_eq] at hc; exact hc.2.2.1
    simp only [cond_true] at ho ⊢
    rw [Tr.run_need _ (by simp only [Int.ofNat_eq_natCast]; omega), Tr.run_br]
    cases hh : ((s.drop 4).take 4 == [255, 255, 255, 255]) with
    | true => rw [hh] at ho; cases ho
    | false => rfl
theorem next_run (s : List UInt8) (R : RdD) (sk : List ChunkD) (hs : s.length ≤ 1073741824) (hk : sk.length ≤ 1024) (own : Int) (ho : ownV s R sk = some own) (e : Int) (R' : RdD) (hc : LQ.chunk (takeV s false own).1 R sk = some (e, R', sk)) :
    LQ.next s R sk = some (bif (takeV s false own).2.2 != 0 then (([], (takeV s false own).2.2), R, sk) else bif Int.ofNat sk.length == 1024 then (([], 5), R, sk) else bif e != 0 then (([], e), R', sk) else (((takeV s false own).2.1, 0), R', sk ++ [keepV (takeV s false own).1])) := by
  obtain ⟨size, rf, lo, sm, ⟨fb, fp⟩, db, dd⟩ := R
  have tl : LQ.next s (size, rf, lo, sm, (fb, fp), db, dd) sk = ((LQ.take s false own).bind fun r4 => bif r4.2.2 != 0 then some (([], r4.2.2), (size, rf, lo, sm, (fb, fp), db, dd), sk) else
      bif Int.ofNat sk.length == 1024 then some (([], 5), (size, rf, lo, sm, (fb, fp), db, dd), sk) else
      (LQ.chunk (r4.1.1, r4.1.2.1, r4.1.2.2.1, ()) (size, rf, lo, sm, (fb, fp), db, dd) sk).bind fun r5 => bif r5.1 != 0 then some (([], r5.1), r5.2.1, r5.2.2) else
        (Tr.need ((r5.2.2.length + 1) * 40 ≤ 140737488355328) (Tr.ret ((r4.2.1, (0 : Int)), r5.2.1, r5.2.2 ++ [keepV r4.1]))).run) := by
    unfold LQ.next LQ.next.t
    unfold ownV at ho
    simp only [Tr.run_bind, Tr.run_br, Tr.run_ret, someBind, own_if] at ho ⊢
    cases hc : (rf && (decide (0 < sk.length) && (decide (8 ≤ s.length) && s.take 4 == daV))) with
    | false =>
      rw [hc] at ho; cases ho
      simp only [cond_false, someBind, Tr.run_csr, Tr.run_bind, Tr.run_br, Tr.run_ret, bifSome, bifPair, bifSame]
      rfl
    | true =>
      rw [hc] at ho
      have h8 : 8 ≤ s.length := by simp only [Bool.and_eq_true, decide_eq_true_eq] at hc; exact hc.2.2.1
      simp only [cond_true] at ho ⊢
      rw [Tr.run_need _ (by simp only [Int.ofNat_eq_natCast]; omega), Tr.run_br]
      cases hh : ((s.drop 4).take 4 == [255, 255, 255, 255]) with
      | false => rw [hh] at ho; cases ho
      | true =>
        rw [hh] at ho; cases ho
        simp only [Bool.not_true, cond_false, someBind, Tr.run_csr, Tr.run_bind, Tr.run_br, Tr.run_ret, bifSome, bifPair, bifSame]
        rfl
  rw [tl, take_eq s false own hs]
  simp only [someBind]
  generalize takeV s false own = t at hc ⊢
  obtain ⟨⟨id, b, pad, u⟩, rest, te⟩ := t
  simp only at hc ⊢
  cases te != 0 with
  | true => rfl
  | false =>
    cases Int.ofNat sk.length == 1024 with
    | true => rfl
    | false =>
      simp only [cond_false]
      refine (congrArg (fun o => Option.bind o _) hc).trans ?_
      rw [someBind]
      cases e != 0 with
      | true => rfl
      | false =>
        simp only [cond_false]
        rw [Tr.run_need _ (by show (sk.length + 1) * 40 ≤ 140737488355328; omega)]; rfl
end Go.Proofs.Ytjjeohcohhhcpaa.Dg
end

section
/- What 'Parse' knows of the chunks that it went through. -/
set_option linter.unusedVariables false
set_option linter.unusedSimpArgs false
namespace Go.LM
open Go.Proofs.Ytjjeohcohhhcpaa.Dg
/-- A chunk's body, when D is what 'data' holds. -/
def bodyC (D : List UInt8) (c : ChunkD) : List UInt8 := bif c.1 == daV then D else c.2.1
def hdrC (rf : Bool) (D : List UInt8) (c : ChunkD) : List UInt8 := bif rf && c.1 == daV then [255, 255, 255, 255] else leB (bodyC D c).length 4
def padC (D : List UInt8) (c : ChunkD) : List UInt8 := bif (bodyC D c).length % 2 == 1 && decide (0 ≤ c.2.2.1) then [UInt8.ofNat c.2.2.1.toNat] else []
/-- A chunk as it lies in a file. -/
def pcC (rf : Bool) (D : List UInt8) (c : ChunkD) : List UInt8 := c.1 ++ hdrC rf D c ++ bodyC D c ++ padC D c
def OkC (D : List UInt8) (last : Prop) (c : ChunkD) : Prop :=
  nameV c.1 = true ∧ (bodyC D c).length < 4294967296 ∧ ((bodyC D c).length % 2 = 0 → c.2.2.1 = 0) ∧ ((bodyC D c).length % 2 = 1 → (0 ≤ c.2.2.1 ∧ c.2.2.1 ≤ 255) ∨ (c.2.2.1 = -1 ∧ last)) ∧ (c.1 = daV → c.2.1 = [])
structure PInv (S : List UInt8) (size : Int) (rf : Bool) (rest : List UInt8) (R : RdD) (sk : List ChunkD) : Prop where
  txt : S = sk.flatMap (pcC rf R.2.2.2.2.2.2) ++ rest
  rsz : R.1 = size
  rrf : R.2.1 = rf
  oks : ∀ i (h : i < sk.length), OkC R.2.2.2.2.2.2 (i + 1 = sk.length ∧ rest = []) sk[i]
  nod : R.2.2.2.2.2.1 = false → ∀ c ∈ sk, c.1 ≠ daV
  dfo : R.2.2.2.2.2.1 = true → R.2.2.2.2.1.1 = true
  frm : R.2.2.2.2.1.1 = true → ∃ b, fmtOK b = true ∧ R.2.2.2.2.1.2 = fmtPcm b
  num : sk.length ≤ 1024
  dln : R.2.2.2.2.2.2.length ≤ 1048576

theorem pcC_other {rf : Bool} {D D' : List UInt8} {c : ChunkD} (h : c.1 ≠ daV) : pcC rf D c = pcC rf D' c := by
  have e : (c.1 == daV) = false := beq_eq_false_iff_ne.2 h
  simp only [pcC, hdrC, padC, bodyC, e, cond_false]
theorem OkC_other {D D' : List UInt8} {l l' : Prop} {c : ChunkD} (h : c.1 ≠ daV) (hl : l → l') (ho : OkC D l c) : OkC D' l' c := by
  have e : (c.1 == daV) = false := beq_eq_false_iff_ne.2 h
  unfold OkC at ho ⊢
  simp only [bodyC, e, cond_false] at ho ⊢
  exact ⟨ho.1, ho.2.1, ho.2.2.1, fun q => (ho.2.2.2.1 q).imp id fun x => ⟨x.1, hl x.2⟩, ho.2.2.2.2⟩
theorem OkC.mono {D : List UInt8} {l l' : Prop} {c : ChunkD} (hl : l → l') (ho : OkC D l c) : OkC D l' c :=
  ⟨ho.1, ho.2.1, ho.2.2.1, fun q => (ho.2.2.2.1 q).imp id fun x => ⟨x.1, hl x.2⟩, ho.2.2.2.2⟩

theorem nameV_len {s : List UInt8} (h : nameV s = true) : s.length = 4 := by
  unfold nameV at h
  simp only [Bool.and_eq_true, beq_iff_eq] at h
  exact h.2

/-- What was taken lies at the front. -/
theorem take_inv {s : List UInt8} {own : Int} {c : ChunkD} {rest : List UInt8} (h : takeV s false own = (c, rest, 0)) :
    8 ≤ s.length ∧ c.1 = s.take 4 ∧ nameV c.1 = true ∧ (own < 0 → (s.drop 4).take 4 = leB c.2.1.length 4) ∧
    ((c.2.1.length % 2 = 0 ∧ c.2.2.1 = 0 ∧ s.drop 8 = c.2.1 ++ rest) ∨ (c.2.1.length % 2 = 1 ∧ c.2.2.1 = -1 ∧ rest = [] ∧ s.drop 8 = c.2.1) ∨ (c.2.1.length % 2 = 1 ∧ 0 ≤ c.2.2.1 ∧ c.2.2.1 ≤ 255 ∧ s.drop 8 = c.2.1 ++ UInt8.ofNat c.2.2.1.toNat :: rest)) := by
  unfold takeV at h
  by_cases h8 : s.length < 8
  · rw [decide_eq_true h8] at h; cases h
  rw [decide_eq_false h8, Bool.false_or] at h
  cases hn : nameV (s.take 4) with
  | false => rw [hn] at h; cases h
  | true =>
    rw [hn, Bool.not_true, cond_false] at h
    have hl4 : ((s.drop 4).take 4).length = 4 := by rw [List.length_take, List.length_drop]; omega
    have ho : own < 0 → (bif decide (own < 0) then ((numV false ((s.drop 4).take 4) : Nat) : Int) else own) = ((numV false ((s.drop 4).take 4) : Nat) : Int) := fun h => by rw [decide_eq_true h]; rfl
    have hn0 : 0 ≤ (bif decide (own < 0) then ((numV false ((s.drop 4).take 4) : Nat) : Int) else own) := by
      by_cases ho : own < 0
      · rw [decide_eq_true ho, cond_true]; omega
      · rw [decide_eq_false ho, cond_false]; omega
    generalize (bif decide (own < 0) then ((numV false ((s.drop 4).take 4) : Nat) : Int) else own) = n at h ho hn0
    by_cases hgt : n > (s.length : Int) - 8
    · rw [decide_eq_true hgt] at h; cases h
    rw [decide_eq_false hgt, cond_false] at h
    obtain ⟨N, rfl⟩ : ∃ N : Nat, n = (N : Int) := ⟨n.toNat, by omega⟩
    rw [Int.toNat_natCast] at h
    have hb : ((s.drop 8).take N).length = N := by rw [List.length_take, List.length_drop]; omega
    have hsp : s.drop 8 = (s.drop 8).take N ++ (s.drop 8).drop N := (List.take_append_drop _ _).symm
    have hhd : own < 0 → (s.drop 4).take 4 = leB N 4 := fun h => by
      have e := ho h
      have e : N = leV ((s.drop 4).take 4) := by
        have : ((N : Nat) : Int) = ((numV false ((s.drop 4).take 4) : Nat) : Int) := e
        unfold numV at this
        simp only [cond_false] at this
        omega
      have := leB_leV ((s.drop 4).take 4)
      rw [hl4, ← e] at this
      exact this.symm
    unfold padV at h
    rw [hb] at h
    cases hp : (N % 2 == 0) with
    | true =>
      rw [hp, cond_true] at h
      simp only [Prod.mk.injEq] at h
      obtain ⟨rfl, rfl, _⟩ := h
      refine ⟨by omega, rfl, hn, fun h => by simp only [hb]; exact hhd h, .inl ⟨?_, rfl, hsp⟩⟩
      simp only [hb]; exact beq_iff_eq.1 hp
    | false =>
      rw [hp, cond_false] at h
      have hp : N % 2 = 1 := by have := beq_eq_false_iff_ne.1 hp; omega
      split at h
      · rename_i hr
        simp only [Prod.mk.injEq] at h
        obtain ⟨rfl, rfl, _⟩ := h
        refine ⟨by omega, rfl, hn, fun h => by simp only [hb]; exact hhd h, .inr (.inl ⟨?_, rfl, rfl, ?_⟩)⟩
        · simp only [hb]; exact hp
        · rw [hr, List.append_nil] at hsp; exact hsp
      · rename_i b r hr
        simp only [Prod.mk.injEq] at h
        obtain ⟨rfl, rfl, _⟩ := h
        have hbt := b.toNat_lt
        refine ⟨by omega, rfl, hn, fun h => by simp only [hb]; exact hhd h, .inr (.inr ⟨?_, ?_, ?_, ?_⟩)⟩
        · simp only [hb]; exact hp
        · show (0 : Int) ≤ (b.toNat : Int); omega
        · show (b.toNat : Int) ≤ 255; omega
        · rw [hr] at hsp
          simp only [Int.toNat_natCast, UInt8.ofNat_toNat]
          exact hsp

/-- What was taken, as it lies: the header is all for 'data' in RF64, else the length. -/
theorem take_pc {s : List UInt8} {own : Int} {c : ChunkD} {rest : List UInt8} (h : takeV s false own = (c, rest, 0)) (rf : Bool) (hs : s.length ≤ 1073741824)
    (h1 : (rf && c.1 == daV) = true → (s.drop 4).take 4 = [255, 255, 255, 255]) (h2 : (rf && c.1 == daV) = false → own < 0) :
    s = pcC rf c.2.1 (keepV c) ++ rest ∧ OkC c.2.1 (rest = []) (keepV c) ∧ rest.length + 8 ≤ s.length := by
  obtain ⟨h8, hid, hn, hh, ht⟩ := take_inv h
  have hb : bodyC c.2.1 (keepV c) = c.2.1 := by
    unfold bodyC keepV
    cases c.1 == daV <;> rfl
  have hs0 : s = c.1 ++ (s.drop 4).take 4 ++ s.drop 8 := by
    rw [hid, List.append_assoc, show s.drop 8 = (s.drop 4).drop 4 by rw [List.drop_drop], List.take_append_drop, List.take_append_drop]
  have hhdr : (s.drop 4).take 4 = hdrC rf c.2.1 (keepV c) := by
    unfold hdrC
    rw [hb, show (keepV c).1 = c.1 from rfl]
    cases hc : (rf && c.1 == daV) with
    | true => exact h1 hc
    | false => exact hh (h2 hc)
  have hlen : c.2.1.length ≤ s.length := by
    have : (s.drop 8).length ≤ s.length := by rw [List.length_drop]; omega
    rcases ht with ⟨_, _, e⟩ | ⟨_, _, _, e⟩ | ⟨_, _, _, e⟩ <;> · rw [e] at this; (try simp only [List.length_append, List.length_cons] at this); omega
  have hrl : rest.length + 8 ≤ s.length := by
    have : (s.drop 8).length = s.length - 8 := List.length_drop
    rcases ht with ⟨_, _, e⟩ | ⟨_, _, r0, e⟩ | ⟨_, _, _, e⟩
    · rw [e] at this; simp only [List.length_append] at this; omega
    · rw [r0]; simp only [List.length_nil]; omega
    · rw [e] at this; simp only [List.length_append, List.length_cons] at this; omega
  have hpad : (keepV c).2.2.1 = c.2.2.1 := rfl
  have hda : (keepV c).1 = daV → (keepV c).2.1 = [] := fun e => by
    have : (c.1 == daV) = true := beq_iff_eq.2 e
    unfold keepV
    simp only [this, cond_true]
  refine ⟨?_, ⟨hn, by rw [hb]; omega, fun e => ?_, fun e => ?_, hda⟩, hrl⟩
  · unfold pcC padC
    rw [hb, hpad, ← hhdr, show (keepV c).1 = c.1 from rfl]
    conv => lhs; rw [hs0]
    rw [List.append_assoc (c.1 ++ _), List.append_assoc (c.1 ++ _)]
    congr 1
    rcases ht with ⟨e1, e2, e⟩ | ⟨e1, e2, r0, e⟩ | ⟨e1, e2, e3, e⟩
    · rw [show (c.2.1.length % 2 == 1) = false by rw [e1]; rfl]; simpa using e
    · rw [e2, r0, show (c.2.1.length % 2 == 1) = true by rw [e1]; rfl]; simpa using e
    · rw [decide_eq_true e2, show (c.2.1.length % 2 == 1) = true by rw [e1]; rfl]; simpa using e
  · rw [hb] at e
    rw [hpad]
    rcases ht with ⟨e1, e2, _⟩ | ⟨e1, _⟩ | ⟨e1, _⟩
    · exact e2
    · omega
    · omega
  · rw [hb] at e
    rw [hpad]
    rcases ht with ⟨e1, _⟩ | ⟨_, e2, r0, _⟩ | ⟨_, e2, e3, _⟩
    · omega
    · exact .inr ⟨e2, r0⟩
    · exact .inl ⟨e2, e3⟩
end Go.LM
end

section
/- One step of 'Parse'. -/
set_option linter.unusedVariables false
set_option linter.unusedSimpArgs false
namespace Go.LM
open Go.Proofs.Ytjjeohcohhhcpaa.Dg
theorem take_len (s : List UInt8) (own : Int) : (takeV s false own).1.2.1.length ≤ s.length := by
  unfold takeV
  cases (decide (s.length < 8) || !nameV (s.take 4)) with
  | true => simp [zCh]
  | false =>
    simp only [cond_false]
    generalize (bif decide (own < 0) then ((numV false ((s.drop 4).take 4) : Nat) : Int) else own) = n
    cases decide (n > (s.length : Int) - 8) with
    | true => simp [zCh]
    | false =>
      have : ((s.drop 8).take n.toNat).length ≤ s.length := by rw [List.length_take, List.length_drop]; omega
      simp only [cond_false]
      unfold padV
      cases ((s.drop 8).take n.toNat).length % 2 == 0 with
      | true => exact this
      | false =>
        simp only [cond_false]
        split
        · exact this
        · exact this

theorem own_hdr {s : List UInt8} {R : RdD} {sk : List ChunkD} {own : Int} {c : ChunkD} (ho : ownV s R sk = some own) (hc : c.1 = s.take 4) (h8 : 8 ≤ s.length) (hk : (R.2.1 && c.1 == daV) = true → 0 < sk.length) :
    ((R.2.1 && c.1 == daV) = true → (s.drop 4).take 4 = [255, 255, 255, 255]) ∧ ((R.2.1 && c.1 == daV) = false → own < 0) := by
  unfold ownV at ho
  rw [hc] at hk ⊢
  constructor
  · intro h
    have h0 := hk h
    simp only [Bool.and_eq_true] at h
    rw [h.1, h.2, decide_eq_true h0, decide_eq_true h8] at ho
    simp only [Bool.and_self, cond_true] at ho
    cases hh : ((s.drop 4).take 4 == [255, 255, 255, 255]) with
    | true => exact beq_iff_eq.1 hh
    | false => rw [hh] at ho; cases ho
  · intro h
    have : (R.2.1 && (decide (0 < sk.length) && (decide (8 ≤ s.length) && s.take 4 == daV))) = false := by
      cases h1 : R.2.1 with
      | false => rfl
      | true => rw [h1, Bool.true_and] at h; rw [h]; simp
    rw [this] at ho
    cases ho; decide

theorem PInv.snoc {S : List UInt8} {size : Int} {rf : Bool} {rest more : List UInt8} {R R' : RdD} {sk : List ChunkD} {k : ChunkD} {D : List UInt8} (hI : PInv S size rf rest R sk) (hne : rest ≠ [])
    (ht : rest = pcC rf D k ++ more) (ho : OkC D (more = []) k) (h1 : R'.1 = R.1) (h2 : R'.2.1 = R.2.1)
    (hd : (k.1 ≠ daV ∧ R'.2.2.2.2.2 = R.2.2.2.2.2) ∨ (k.1 = daV ∧ R.2.2.2.2.2.1 = false ∧ R'.2.2.2.2.2 = (true, D)))
    (hf : R'.2.2.2.2.2.1 = true → R'.2.2.2.2.1.1 = true) (hm : R'.2.2.2.2.1.1 = true → ∃ b, fmtOK b = true ∧ R'.2.2.2.2.1.2 = fmtPcm b) (hn : sk.length ≠ 1024) (hdl : D.length ≤ 1048576) : PInv S size rf more R' (sk ++ [k]) := by
  have hD : (∀ c ∈ sk, pcC rf R.2.2.2.2.2.2 c = pcC rf R'.2.2.2.2.2.2 c) ∧ pcC rf D k = pcC rf R'.2.2.2.2.2.2 k ∧ (∀ c ∈ sk, ∀ l l' : Prop, (l → l') → OkC R.2.2.2.2.2.2 l c → OkC R'.2.2.2.2.2.2 l' c) ∧ OkC R'.2.2.2.2.2.2 (more = []) k := by
    rcases hd with ⟨a, b⟩ | ⟨a, b, d⟩
    · rw [b]
      exact ⟨fun _ _ => rfl, pcC_other a, fun c _ l l' hl h => h.mono hl, OkC_other a id ho⟩
    · rw [d]
      exact ⟨fun c hc => pcC_other (hI.nod b c hc), rfl, fun c hc l l' hl h => OkC_other (hI.nod b c hc) hl h, ho⟩
  obtain ⟨d1, d2, d3, d4⟩ := hD
  refine ⟨?_, h1.trans hI.rsz, h2.trans hI.rrf, fun i hi => ?_, fun h c hc => ?_, hf, hm, ?_, ?_⟩
  · rw [hI.txt, List.flatMap_append, ht, d2]
    have : sk.flatMap (pcC rf R.2.2.2.2.2.2) = sk.flatMap (pcC rf R'.2.2.2.2.2.2) := by
      rw [List.flatMap_def, List.flatMap_def]
      congr 1
      exact List.map_congr_left d1
    rw [this]
    simp
  · by_cases e : i < sk.length
    · rw [List.getElem_append_left e]
      exact d3 _ (List.getElem_mem e) _ _ (fun x => (hne x.2).elim) (hI.oks i e)
    · have e2 : i = sk.length := by simp at hi; omega
      subst e2
      rw [List.getElem_append_right (Nat.le_refl _)]
      simp only [Nat.sub_self, List.getElem_cons_zero]
      exact d4.mono fun x => ⟨by simp, x⟩
  · rcases hd with ⟨a, b⟩ | ⟨a, b, d⟩
    · rw [b] at h
      rcases List.mem_append.1 hc with hc | hc
      · exact hI.nod h c hc
      · rw [List.mem_singleton.1 hc]; exact a
    · rw [d] at h; cases h
  · have := hI.num
    simp; omega
  · rcases hd with ⟨a, b⟩ | ⟨a, b, d⟩
    · rw [b]; exact hI.dln
    · rw [d]; exact hdl

theorem next_step {S : List UInt8} {size : Int} {rf : Bool} {rest : List UInt8} {R : RdD} {sk : List ChunkD} (hI : PInv S size rf rest R sk) (hne : rest ≠ []) (hs : rest.length ≤ 1048576) :
    (∃ m e R' sk', e ≠ 0 ∧ LQ.next rest R sk = some ((m, e), R', sk')) ∨ (∃ more R' sk', LQ.next rest R sk = some ((more, 0), R', sk') ∧ PInv S size rf more R' sk' ∧ more.length + 8 ≤ rest.length) := by
  cases ho : ownV rest R sk with
  | none => exact .inl ⟨_, _, _, _, (by decide : (2 : Int) ≠ 0), next_none rest R sk ho⟩
  | some own =>
    have hl := take_len rest own
    have hnx := next_run rest R sk (by omega) hI.num own ho
    generalize ht : takeV rest false own = t at hl hnx
    obtain ⟨c, more, te⟩ := t
    simp only at hl hnx
    obtain ⟨e, R', hc⟩ := chunk_ex c R sk (by omega)
    have hnx := hnx e R' hc
    by_cases h1 : te = 0
    · subst h1
      simp only [bne_self_eq_false, cond_false] at hnx
      by_cases h2 : sk.length = 1024
      · rw [show (Int.ofNat sk.length == 1024) = true by rw [h2]; rfl, cond_true] at hnx
        exact .inl ⟨_, _, _, _, (by decide : (5 : Int) ≠ 0), hnx⟩
      · rw [show (Int.ofNat sk.length == 1024) = false by simp only [beq_eq_false_iff_ne, Int.ofNat_eq_natCast]; omega, cond_false] at hnx
        by_cases h3 : e = 0
        · subst h3
          simp only [bne_self_eq_false, cond_false] at hnx
          refine .inr ⟨_, _, _, hnx, ?_⟩
          obtain ⟨h8, hid, _⟩ := take_inv ht
          have hrf := hI.rrf
          -- the chunk, by its kind
          have kind : ((R.2.1 && c.1 == daV) = true → 0 < sk.length) ∧ R'.1 = R.1 ∧ R'.2.1 = R.2.1 ∧ ((c.1 ≠ daV ∧ R'.2.2.2.2.2 = R.2.2.2.2.2) ∨ (c.1 = daV ∧ R.2.2.2.2.2.1 = false ∧ R'.2.2.2.2.2 = (true, c.2.1))) ∧
              (R'.2.2.2.2.2.1 = true → R'.2.2.2.2.1.1 = true) ∧ (R'.2.2.2.2.1.1 = true → ∃ b, fmtOK b = true ∧ R'.2.2.2.2.1.2 = fmtPcm b) := by
            cases hz : (R.2.1 && Int.ofNat sk.length == 0) with
            | true =>
              obtain ⟨e, l, m, hc2, he⟩ := chunk_ds c R sk hz (by omega)
              rw [hc] at hc2
              simp only [Option.some.injEq, Prod.mk.injEq] at hc2
              obtain ⟨e1, e2, _⟩ := hc2
              have hds := he e1.symm
              have hnd : c.1 ≠ daV := by rw [hds]; decide
              rw [e2]
              exact ⟨(fun h => by rw [beq_eq_false_iff_ne.2 hnd, Bool.and_false] at h; cases h), rfl, rfl, .inl ⟨hnd, rfl⟩, hI.dfo, hI.frm⟩
            | false =>
              have hc2 := chunk_eq c R sk hz (by omega)
              rw [hc] at hc2
              simp only [Option.some.injEq, Prod.mk.injEq] at hc2
              obtain ⟨e1, e2, _⟩ := hc2
              have hfm := fmtV_eq c.2.1 (by omega)
              have h0 : (R.2.1 && c.1 == daV) = true → 0 < sk.length := fun h => by
                simp only [Bool.and_eq_true] at h
                rw [h.1, Bool.true_and] at hz
                simp only [beq_eq_false_iff_ne, Int.ofNat_eq_natCast] at hz
                omega
              refine ⟨h0, ?_⟩
              rw [e2]
              unfold chunkV at e1 ⊢
              by_cases k1 : c.1 = dsV
              · rw [beq_iff_eq.2 k1] at e1 ⊢
                simp only [cond_true] at e1 ⊢
                have hnd : c.1 ≠ daV := by rw [k1]; decide
                cases hr : R.2.1 with
                | true => rw [hr] at e1; cases e1
                | false => exact ⟨rfl, hr, .inl ⟨hnd, rfl⟩, hI.dfo, hI.frm⟩
              rw [beq_eq_false_iff_ne.2 k1] at e1 ⊢
              simp only [cond_false] at e1 ⊢
              by_cases k2 : c.1 = fmV
              · rw [beq_iff_eq.2 k2] at e1 ⊢
                simp only [cond_true] at e1 ⊢
                have hnd : c.1 ≠ daV := by rw [k2]; decide
                cases hr : R.2.2.2.2.1.1 with
                | true => rw [hr] at e1; cases e1
                | false =>
                  rw [hr] at e1
                  simp only [cond_false] at e1 ⊢
                  have hok := hfm.2.2.2 e1.symm
                  exact ⟨by trivial, by trivial, .inl ⟨hnd, by trivial⟩, fun _ => by trivial, fun _ => ⟨c.2.1, hok, by rw [hfm.2.2.1 hok]⟩⟩
              rw [beq_eq_false_iff_ne.2 k2] at e1 ⊢
              simp only [cond_false] at e1 ⊢
              by_cases k3 : c.1 = daV
              · rw [beq_iff_eq.2 k3] at e1 ⊢
                simp only [cond_true] at e1 ⊢
                cases hr : R.2.2.2.2.1.1 with
                | false => rw [hr] at e1; cases e1
                | true =>
                  cases hd : R.2.2.2.2.2.1 with
                  | true => rw [hr, hd] at e1; cases e1
                  | false => exact ⟨rfl, rfl, .inr ⟨k3, rfl, rfl⟩, fun _ => hr, fun _ => hI.frm hr⟩
              · rw [beq_eq_false_iff_ne.2 k3]
                simp only [cond_false]
                exact ⟨by trivial, by trivial, .inl ⟨k3, by trivial⟩, hI.dfo, hI.frm⟩
          obtain ⟨k0, k1, k2, k3, k4, k5⟩ := kind
          obtain ⟨o1, o2⟩ := own_hdr ho hid h8 k0
          rw [hrf] at o1 o2
          obtain ⟨p1, p2, p3⟩ := take_pc ht rf (by omega) o1 o2
          exact ⟨hI.snoc hne p1 p2 k1 k2 k3 k4 k5 h2 (by omega), p3⟩
        · rw [show (e != 0) = true from bne_iff_ne.2 h3, cond_true] at hnx
          exact .inl ⟨_, _, _, _, h3, hnx⟩
    · rw [show (te != 0) = true from bne_iff_ne.2 h1, cond_true] at hnx
      exact .inl ⟨_, _, _, _, h1, hnx⟩

/-- The loop of 'Parse'. -/
theorem parse_loop {S : List UInt8} {size : Int} {rf : Bool} (x : Int × Int × Int) (y : List UInt8) : ∀ (n : Nat) (rest : List UInt8) (R : RdD) (sk : List ChunkD), rest.length ≤ n → n ≤ 1048576 → PInv S size rf rest R sk →
    ∃ r, loopO (fun (d : List UInt8 × (Int × Int × Int) × List UInt8 × RdD × List ChunkD) ↦ (LQ.Parse.l0 d.fst d.snd.fst d.snd.snd.fst d.snd.snd.snd.fst d.snd.snd.snd.snd).run) (rest, x, y, R, sk) = some r ∧
      ((∃ e, e ≠ 0 ∧ r = .inl (e, (0, 0, 0), [])) ∨ ∃ R' sk', r = .inr (x, y, R', sk') ∧ PInv S size rf [] R' sk')
  | n, [], R, sk, _, _, hI => by
    obtain ⟨x1, x2, x3⟩ := x
    obtain ⟨size', rf', lo, sm, ⟨fb, fp⟩, db, dd⟩ := R
    exact ⟨.inr ((x1, x2, x3), y, (size', rf', lo, sm, (fb, fp), db, dd), sk), loopO_done rfl, .inr ⟨_, _, rfl, hI⟩⟩
  | 0, b :: rest, R, sk, h, _, hI => by simp at h
  | n + 1, b :: rest, R, sk, h, hn, hI => by
    rcases next_step hI (by simp) (by simp only [List.length_cons] at h ⊢; omega) with ⟨m, e, R', sk', he, hnx⟩ | ⟨more, R', sk', hnx, hI', hl⟩
    · refine ⟨.inl (e, (0, 0, 0), []), loopO_done ?_, .inl ⟨e, he, rfl⟩⟩
      obtain ⟨size', rf', lo, sm, ⟨fb, fp⟩, db, dd⟩ := R
      simp only [LQ.Parse.l0]
      rw [Tr.run_br, show (!(b :: rest == ([] : List UInt8))) = true from rfl, cond_true, Tr.run_bind]
      refine (congrArg (fun o => Option.bind o _) hnx).trans ?_
      rw [someBind, Tr.run_br, show (e != 0) = true from bne_iff_ne.2 he]
      rfl
    · obtain ⟨r, h1, h2⟩ := parse_loop x y n more R' sk' (by simp only [List.length_cons] at h hl; omega) (by omega) hI'
      refine ⟨r, ?_, h2⟩
      rw [← h1]
      refine loopO_next ?_
      obtain ⟨size', rf', lo, sm, ⟨fb, fp⟩, db, dd⟩ := R
      simp only [LQ.Parse.l0]
      rw [Tr.run_br, show (!(b :: rest == ([] : List UInt8))) = true from rfl, cond_true, Tr.run_bind]
      refine (congrArg (fun o => Option.bind o _) hnx).trans ?_
      rfl
end Go.LM
end

section
/- The end of 'Parse', and 'Parse'. -/
set_option linter.unusedVariables false
set_option linter.unusedSimpArgs false
namespace Go.LM
open Go.Proofs.Ytjjeohcohhhcpaa.Dg
theorem fmtOK_bd {b : List UInt8} (h : fmtOK b = true) : 1 ≤ pieceL b 2 2 ∧ pieceL b 2 2 ≤ 8 ∧ 1 ≤ pieceL b 4 4 ∧ pieceL b 4 4 ≤ 655350 ∧ 1 ≤ pieceL b 14 2 ∧ pieceL b 14 2 ≤ 32 ∧ pieceL b 14 2 % 8 = 0 := (of_decide_eq_true h).2.1
theorem frame_eq {C W : Nat} (hC : C ≤ 8) (hW : W ≤ 32) : w64 ((w64 ((C : Int) * (W : Int))).tdiv 8) = ((C * W / 8 : Nat) : Int) := by
  have : C * W ≤ 8 * 32 := Nat.mul_le_mul (by omega) (by omega)
  rw [w64_id (x := (C : Int) * (W : Int)) (by constructor <;> · rw [← Int.natCast_mul]; omega), ← Int.natCast_mul, Int.tdiv_eq_ediv_of_nonneg (by omega), w64_id (by omega)]; omega
theorem frame_bw {C W : Nat} (hW : W % 8 = 0) : C * W / 8 = C * bwN W := by
  unfold bwN
  obtain ⟨k, rfl⟩ : ∃ k, W = 8 * k := ⟨W / 8, by omega⟩
  rw [show (8 * k + 7) / 8 = k by omega, show C * (8 * k) = 8 * (C * k) by rw [Nat.mul_left_comm], Nat.mul_div_cancel_left _ (by decide)]
def waV : List UInt8 := [87, 65, 86, 69]
def riV : List UInt8 := [82, 73, 70, 70]
def rfV : List UInt8 := [82, 70, 54, 52]
def allV : List UInt8 := [255, 255, 255, 255]
def zWv : List UInt8 × List ChunkD × PUnit := ([], [], ())
def HeadP (s : List UInt8) : Prop := 12 ≤ s.length ∧ (s.drop 8).take 4 = waV ∧ ((s.take 4 = rfV ∧ (s.drop 4).take 4 = allV) ∨ (s.take 4 = riV ∧ pieceL s 4 4 + 8 = s.length))
instance (s : List UInt8) : Decidable (HeadP s) := by unfold HeadP; infer_instance
end Go.LM
namespace Go.Proofs.Ytjjeohcohhhcpaa.Dg
open Go.LM
theorem end_none (R : RdD) (sk : List ChunkD) (h : R.2.2.2.2.1.1 = false ∨ R.2.2.2.2.2.1 = false) : LQ.end_ R sk = some ((zPc, 2), R, sk) := by
  obtain ⟨size, rf, lo, sm, ⟨fb, fp⟩, db, dd⟩ := R
  unfold LQ.end_ LQ.end_.t
  simp only at h
  rcases h with rfl | rfl
  · rfl
  · cases fb <;> rfl
theorem end_eq (size : Int) (rf : Bool) (lo sm : Int) (C W r : Nat) (x : PUnit) (dd : List UInt8) (sk : List ChunkD) (hC : 1 ≤ C ∧ C ≤ 8) (hW : 1 ≤ W ∧ W ≤ 32 ∧ W % 8 = 0) (hd : dd.length ≤ 67108864) :
    LQ.end_ (size, rf, lo, sm, (true, (r : Int), (C : Int), (W : Int), [], x), true, dd) sk = bif (dd.length % (C * W / 8) != 0 || (rf && (((dd.length / (C * W / 8) : Nat) : Int) != sm))) then some ((zPc, 2), (size, rf, lo, sm, (true, (r : Int), (C : Int), (W : Int), [], x), true, dd), sk) else
      (LQ.pcm_Unpack dd r C W (false, ((W : Int) == 8), ())).bind fun q => some (((q.1.1, q.1.2.1, q.1.2.2.1, q.1.2.2.2.1, ()), q.2), (size, rf, lo, sm, (true, (r : Int), (C : Int), (W : Int), [], x), true, dd), sk) := by
  have hF : 1 ≤ C * W / 8 := by
    have : 1 * 8 ≤ C * W := Nat.mul_le_mul hC.1 (by omega)
    omega
  have fe := frame_eq hC.2 hW.2.1
  have key : ∀ o, LQ.end_ (size, rf, lo, sm, (true, (r : Int), (C : Int), (W : Int), [], x), true, dd) sk = o → LQ.end_ (size, rf, lo, sm, (true, (r : Int), (C : Int), (W : Int), [], x), true, dd) sk = o := fun _ h => h
  unfold LQ.end_ LQ.end_.t
  simp only [fe, Tr.run_bind, Tr.run_br, Tr.run_ret, someBind, bifSome, bifPair, bifSame, bifOr1, bifOr2, bifAnd, bifNot, Bool.not_true, Bool.false_or, cond_false]
  generalize C * W / 8 = F at hF ⊢
  have m1 : ((Int.ofNat dd.length).tmod (F : Int) != 0) = (dd.length % F != 0) := by
    rw [Int.ofNat_eq_natCast, Int.tmod_eq_emod_of_nonneg (by omega), Bool.eq_iff_iff, bne_iff_ne, bne_iff_ne, ← Int.natCast_emod]; omega
  have m2 : w64 ((Int.ofNat dd.length).tdiv (F : Int)) = ((dd.length / F : Nat) : Int) := by
    have : dd.length / F ≤ dd.length := Nat.div_le_self _ _
    rw [Int.ofNat_eq_natCast, Int.tdiv_eq_ediv_of_nonneg (by omega), ← Int.natCast_ediv]
    generalize dd.length / F = z at this ⊢
    rw [w64_id (by omega)]
  have n0 : (F : Int) ≠ 0 := by omega
  rw [Tr.run_need _ trivial, Tr.run_need _ trivial, Tr.run_bind, Tr.run_need _ trivial, Tr.run_need _ n0, Tr.run_br, m1]
  cases hm : (dd.length % F != 0) with
  | true => rfl
  | false =>
    rw [cond_false, Tr.run_br]
    cases rf with
    | false =>
      simp only [cond_false, Tr.run_ret, someBind, Tr.run_br, Bool.false_and, Bool.or_false]
      rw [Tr.run_need _ trivial, Tr.run_need _ trivial, Tr.run_need _ trivial, Tr.run_need _ trivial, Tr.run_need _ trivial, Tr.run_bind]
      rfl
    | true =>
      rw [cond_true, Tr.run_need _ trivial, Tr.run_need _ n0, m2]
      simp only [Tr.run_ret, someBind, Tr.run_br, Bool.true_and, Bool.false_or]
      cases ((dd.length / F : Nat) : Int) != sm with
      | true => rfl
      | false =>
        simp only [cond_false]
        rw [Tr.run_need _ trivial, Tr.run_need _ trivial, Tr.run_need _ trivial, Tr.run_need _ trivial, Tr.run_need _ trivial, Tr.run_bind]
        rfl

theorem Parse_bad (s : List UInt8) (hs : s.length ≤ 67108864) (h : ¬ HeadP s) : LQ.Parse s = some (zPc, zWv, 2) := by
  unfold LQ.Parse LQ.Parse.t
  rw [Tr.run_br, decide_eq_false (by simp only [Int.ofNat_eq_natCast]; omega), cond_false, Tr.run_bind, Tr.run_br]
  by_cases h12 : 12 ≤ s.length
  · rw [decide_eq_true (by simp only [Int.ofNat_eq_natCast]; omega), cond_true, Tr.run_need _ (by simp only [Int.ofNat_eq_natCast]; omega), Tr.run_ret, someBind, Tr.run_bind, Tr.run_br]
    cases hw : ((s.drop 8).take 4 == [87, 65, 86, 69]) with
    | false => simp only [cond_false]; rfl
    | true =>
      have hw := beq_iff_eq.1 hw
      have l4 := le_eq s 4 4 (by omega) (by omega) (by omega)
      simp only [Int.cast_ofNat_Int] at l4
      simp only [cond_true]
      rw [Tr.run_need _ (by simp only [Int.ofNat_eq_natCast]; omega), Tr.run_bind, Tr.run_br, List.drop_zero]
      have hle : (((pieceL s 4 4 : Nat) : Int) == w64 (Int.ofNat s.length - 8)) = decide (pieceL s 4 4 + 8 = s.length) := by
        rw [Int.ofNat_eq_natCast, w64_id (by omega), Bool.eq_iff_iff, beq_iff_eq, decide_eq_true_eq]; omega
      have hri : s.take 4 = riV → s.take 4 ≠ rfV := fun a b => by rw [a] at b; exact absurd b (by decide)
      cases h1 : (s.take 4 == [82, 70, 54, 52]) with
      | true =>
        have h1' := beq_iff_eq.1 h1
        simp only [cond_true]
        rw [Tr.run_need _ (by simp only [Int.ofNat_eq_natCast]; omega), Tr.run_br]
        cases h2 : ((s.drop 4).take 4 == [255, 255, 255, 255]) with
        | true => exact (h ⟨h12, hw, .inl ⟨h1', beq_iff_eq.1 h2⟩⟩).elim
        | false =>
          simp only [cond_false]
          rw [Tr.run_need _ (by simp only [Int.ofNat_eq_natCast]; omega), Tr.run_br]
          have : (s.take 4 == [82, 73, 70, 70]) = false := by rw [h1']; decide
          rw [this]; rfl
      | false =>
        simp only [cond_false]
        rw [Tr.run_need _ (by simp only [Int.ofNat_eq_natCast]; omega), Tr.run_br]
        cases h3 : (s.take 4 == [82, 73, 70, 70]) with
        | false => rfl
        | true =>
          simp only [cond_true]
          rw [Tr.run_bind, l4, someBind, Tr.run_ret, someBind, Tr.run_ret, hle, decide_eq_false (fun e => h ⟨h12, hw, .inr ⟨beq_iff_eq.1 h3, e⟩⟩)]
          rfl
  · rw [decide_eq_false (by simp only [Int.ofNat_eq_natCast]; omega)]; rfl
theorem Parse_run (s : List UInt8) (hs : s.length ≤ 67108864) (h : HeadP s) : LQ.Parse s = (loopO (fun (d : List UInt8 × (Int × Int × Int) × List UInt8 × RdD × List ChunkD) ↦ (LQ.Parse.l0 d.fst d.snd.fst d.snd.snd.fst d.snd.snd.snd.fst d.snd.snd.snd.snd).run) (s.drop 12, (0, 0, 0), [], ((s.length : Int), (s.take 4 == rfV), 0, 0, (false, 0, 0, 0, [], ()), false, []), [])).bind fun r => match r with
      | .inl q => some ((q.2.1.1, q.2.1.2.1, q.2.1.2.2, [], ()), (q.2.2, [], ()), q.1)
      | .inr q => (LQ.end_ q.2.2.1 q.2.2.2).bind fun z => bif z.1.2 != 0 then some ((0, 0, 0, [], ()), ([], [], ()), z.1.2) else some ((z.1.1.1, z.1.1.2.1, z.1.1.2.2.1, z.1.1.2.2.2.1, ()), (s.take 4, z.2.2, ()), 0) := by
  obtain ⟨h12, hw, h⟩ := h
  have l4 := le_eq s 4 4 (by omega) (by omega) (by omega)
  simp only [Int.cast_ofNat_Int] at l4
  have hle : (((pieceL s 4 4 : Nat) : Int) == w64 (Int.ofNat s.length - 8)) = decide (pieceL s 4 4 + 8 = s.length) := by
    rw [Int.ofNat_eq_natCast, w64_id (by omega), Bool.eq_iff_iff, beq_iff_eq, decide_eq_true_eq]; omega
  have ht : List.take (Int.ofNat s.length - 12).toNat (s.drop 12) = s.drop 12 := List.take_of_length_le (by rw [List.length_drop]; simp only [Int.ofNat_eq_natCast]; omega)
  unfold LQ.Parse LQ.Parse.t
  rw [Tr.run_br, decide_eq_false (by simp only [Int.ofNat_eq_natCast]; omega), cond_false, Tr.run_bind, Tr.run_br, decide_eq_true (by simp only [Int.ofNat_eq_natCast]; omega), cond_true, Tr.run_need _ (by simp only [Int.ofNat_eq_natCast]; omega), Tr.run_ret, someBind, Tr.run_bind, Tr.run_br, hw,
    show (waV == ([87, 65, 86, 69] : List UInt8)) = true from rfl]
  simp only [cond_true]
  rw [Tr.run_need _ (by simp only [Int.ofNat_eq_natCast]; omega), Tr.run_bind, Tr.run_br, List.drop_zero]
  have fin : ∀ (b : Bool), (Tr.need ((0 : Int) ≤ 12 ∧ (12 : Int) ≤ Int.ofNat s.length ∧ Int.ofNat s.length ≤ Int.ofNat s.length) (Tr.bind (Int × (Int × Int × Int) × List UInt8 ⊕ (Int × Int × Int) × List UInt8 × RdD × List ChunkD)
      (loopO (fun (d : List UInt8 × (Int × Int × Int) × List UInt8 × RdD × List ChunkD) ↦ (LQ.Parse.l0 d.fst d.snd.fst d.snd.snd.fst d.snd.snd.snd.fst d.snd.snd.snd.snd).run) (s.drop 12, (0, 0, 0), [], ((s.length : Int), b, 0, 0, (false, 0, 0, 0, [], ()), false, []), [])) (.inl (0, (0, 0, 0), [])) fun r6 => 
      Tr.cs _ _ r6 (0, (0, 0, 0), []) ((0, 0, 0), [], (0, false, 0, 0, (false, 0, 0, 0, [], ()), false, []), []) (fun r7 => Tr.ret ((r7.2.1.1, r7.2.1.2.1, r7.2.1.2.2, ([] : List (List Int)), ()), (r7.2.2, ([] : List ChunkD), ()), r7.1))
        fun r8 => Tr.bind _ (LQ.end_ r8.2.2.1 r8.2.2.2) (((0, 0, 0, [], ()), 0), (0, false, 0, 0, (false, 0, 0, 0, [], ()), false, []), []) fun r9 => Tr.br (r9.1.2 != 0) (Tr.ret ((0, 0, 0, [], ()), ([], [], ()), r9.1.2))
          (Tr.need ((0 : Int) ≤ 0 ∧ (0 : Int) ≤ 4 ∧ (4 : Int) ≤ Int.ofNat s.length) (Tr.ret ((r9.1.1.1, r9.1.1.2.1, r9.1.1.2.2.1, r9.1.1.2.2.2.1, ()), (s.take 4, r9.2.2, ()), 0))))).run =
    (loopO (fun (d : List UInt8 × (Int × Int × Int) × List UInt8 × RdD × List ChunkD) ↦ (LQ.Parse.l0 d.fst d.snd.fst d.snd.snd.fst d.snd.snd.snd.fst d.snd.snd.snd.snd).run) (s.drop 12, (0, 0, 0), [], ((s.length : Int), b, 0, 0, (false, 0, 0, 0, [], ()), false, []), [])).bind fun r => match r with
      | .inl q => some ((q.2.1.1, q.2.1.2.1, q.2.1.2.2, [], ()), (q.2.2, [], ()), q.1)
      | .inr q => (LQ.end_ q.2.2.1 q.2.2.2).bind fun z => bif z.1.2 != 0 then some ((0, 0, 0, [], ()), ([], [], ()), z.1.2) else some ((z.1.1.1, z.1.1.2.1, z.1.1.2.2.1, z.1.1.2.2.2.1, ()), (s.take 4, z.2.2, ()), 0) := fun b => by
    rw [Tr.run_need _ (by simp only [Int.ofNat_eq_natCast]; omega), Tr.run_bind]
    congr 1
    funext r
    cases r with
    | inl q => rfl
    | inr q =>
      rw [Tr.run_csr, Tr.run_bind]
      show (LQ.end_ q.2.2.1 q.2.2.2).bind _ = (LQ.end_ q.2.2.1 q.2.2.2).bind _
      congr 1
      funext z
      rw [Tr.run_br, Tr.run_need _ (by simp only [Int.ofNat_eq_natCast]; omega)]
      rfl
  rcases h with ⟨h1, h2⟩ | ⟨h1, h2⟩
  · rw [h1, show (rfV == ([82, 70, 54, 52] : List UInt8)) = true from rfl]
    simp only [cond_true]
    rw [Tr.run_need _ (by simp only [Int.ofNat_eq_natCast]; omega), Tr.run_br, h2, show (allV == ([255, 255, 255, 255] : List UInt8)) = true from rfl]
    simp only [cond_true, Tr.run_ret, someBind, Tr.run_br, Bool.not_true, cond_false]
    rw [ht]
    have := fin true
    rw [h1] at this
    exact this
  · rw [h1, show (riV == ([82, 70, 54, 52] : List UInt8)) = false from rfl]
    simp only [cond_false]
    rw [Tr.run_need _ (by simp only [Int.ofNat_eq_natCast]; omega), Tr.run_br, show (riV == ([82, 73, 70, 70] : List UInt8)) = true from rfl]
    simp only [cond_true]
    rw [Tr.run_bind, l4, someBind, Tr.run_ret, someBind, Tr.run_ret, hle, decide_eq_true h2]
    simp only [cond_true, Tr.run_ret, someBind, Tr.run_br, Bool.not_true, cond_false]
    rw [ht]
    have := fin false
    rw [h1] at this
    exact this
end Go.Proofs.Ytjjeohcohhhcpaa.Dg
end

section
/- All that 'Parse' gives. -/
set_option linter.unusedVariables false
set_option linter.unusedSimpArgs false
namespace Go.LM
open Go.Proofs.Ytjjeohcohhhcpaa.Dg
/-- What stands behind a file that was taken apart. -/
structure Parsed (s : List UInt8) (p : PcmD) (w : List UInt8 × List ChunkD × PUnit) (R : RdD) (b : List UInt8) (q : Nat) : Prop where
  head : HeadP s
  inv : PInv (s.drop 12) s.length (s.take 4 == rfV) [] R w.2.1
  form : w.1 = s.take 4
  ok : fmtOK b = true
  got : R.2.2.2.2.2.1 = true
  len : R.2.2.2.2.2.2.length = q * pieceL b 2 2 * bwN (pieceL b 14 2)
  few : q ≤ 1048576
  all : ∀ j, j < q * pieceL b 2 2 → inW (pieceL b 14 2 : Nat) (xsV false (((pieceL b 14 2 : Nat) : Int) == 8) (pieceL b 14 2) R.2.2.2.2.2.2 j) = true
  pcm : p = (((pieceL b 4 4 : Nat) : Int), ((pieceL b 2 2 : Nat) : Int), ((pieceL b 14 2 : Nat) : Int), upV (xsV false (((pieceL b 14 2 : Nat) : Int) == 8) (pieceL b 14 2) R.2.2.2.2.2.2) (pieceL b 2 2) (q * pieceL b 2 2), ())

theorem fmt_kind {b : List UInt8} (h : fmtOK b = true) : okKind (pieceL b 4 4 : Nat) (pieceL b 2 2 : Nat) (pieceL b 14 2 : Nat) = true := by
  have := fmtOK_bd h
  unfold okKind
  rw [decide_eq_true_eq]
  omega

theorem Parse_all (s : List UInt8) (hs : s.length ≤ 1048576) : ∃ p w e, LQ.Parse s = some (p, w, e) ∧ (e ≠ 0 → p = zPc ∧ w = zWv) ∧ (e = 0 → ∃ R b q, Parsed s p w R b q) := by
  by_cases hh : HeadP s
  · rw [Parse_run s (by omega) hh]
    have hI : PInv (s.drop 12) s.length (s.take 4 == rfV) (s.drop 12) ((s.length : Int), (s.take 4 == rfV), 0, 0, (false, 0, 0, 0, [], ()), false, []) [] :=
      ⟨rfl, rfl, rfl, (fun i h => by cases h), (fun _ c hc => by cases hc), (fun h => by cases h), (fun h => by cases h), Nat.zero_le _, Nat.zero_le _⟩
    obtain ⟨r, h1, h2⟩ := parse_loop (0, 0, 0) [] (s.drop 12).length (s.drop 12) _ [] (Nat.le_refl _) (by rw [List.length_drop]; omega) hI
    rw [h1, someBind]
    rcases h2 with ⟨e, he, rfl⟩ | ⟨R, sk, rfl, hI'⟩
    · exact ⟨_, _, _, rfl, fun _ => ⟨rfl, rfl⟩, fun h => (he h).elim⟩
    · simp only
      by_cases hb : R.2.2.2.2.1.1 = false ∨ R.2.2.2.2.2.1 = false
      · rw [end_none R sk hb, someBind]
        exact ⟨_, _, 2, rfl, fun _ => ⟨rfl, rfl⟩, fun h => by cases h⟩
      · have hfb : R.2.2.2.2.1.1 = true := by cases h : R.2.2.2.2.1.1 with | true => rfl | false => exact (hb (.inl h)).elim
        have hdb : R.2.2.2.2.2.1 = true := by cases h : R.2.2.2.2.2.1 with | true => rfl | false => exact (hb (.inr h)).elim
        obtain ⟨b, hok, hfp⟩ := hI'.frm hfb
        have bd := fmtOK_bd hok
        have hk := fmt_kind hok
        have hdl := hI'.dln
        obtain ⟨size, rf, lo, sm, ⟨fb, fp⟩, db, dd⟩ := R
        simp only at hfb hdb hfp hdl
        subst hfb hdb hfp
        unfold fmtPcm
        rw [end_eq size rf lo sm _ _ _ () dd sk ⟨bd.1, bd.2.1⟩ ⟨bd.2.2.2.2.1, bd.2.2.2.2.2.1, bd.2.2.2.2.2.2⟩ (by omega)]
        cases hcd : (dd.length % (pieceL b 2 2 * pieceL b 14 2 / 8) != 0 || (rf && (((dd.length / (pieceL b 2 2 * pieceL b 14 2 / 8) : Nat) : Int) != sm))) with
        | true =>
          rw [cond_true, someBind]
          exact ⟨_, _, 2, rfl, fun _ => ⟨rfl, rfl⟩, fun h => by cases h⟩
        | false =>
          rw [cond_false]
          simp only [Bool.or_eq_false_iff, bne_eq_false_iff_eq] at hcd
          have hmod := hcd.1
          rw [frame_bw bd.2.2.2.2.2.2] at hmod
          have hF : 1 ≤ pieceL b 2 2 * bwN (pieceL b 14 2) := by
            have : 1 * 1 ≤ pieceL b 2 2 * bwN (pieceL b 14 2) := Nat.mul_le_mul bd.1 (by unfold bwN; omega)
            omega
          have hlen : dd.length = dd.length / (pieceL b 2 2 * bwN (pieceL b 14 2)) * pieceL b 2 2 * bwN (pieceL b 14 2) := by
            rw [Nat.mul_assoc]
            have := Nat.div_add_mod dd.length (pieceL b 2 2 * bwN (pieceL b 14 2))
            rw [hmod, Nat.add_zero, Nat.mul_comm] at this
            exact this.symm
          have hq : dd.length / (pieceL b 2 2 * bwN (pieceL b 14 2)) ≤ 1048576 := Nat.le_trans (Nat.div_le_self _ _) hdl
          generalize dd.length / (pieceL b 2 2 * bwN (pieceL b 14 2)) = q at hlen hq
          rw [Unpack_ok dd _ _ _ q false _ hk hlen hq, someBind, someBind]
          unfold unpV
          cases hall : (List.range (q * pieceL b 2 2)).all (fun j => inW (pieceL b 14 2 : Nat) (xsV false (((pieceL b 14 2 : Nat) : Int) == 8) (pieceL b 14 2) dd j)) with
          | false => exact ⟨_, _, 2, rfl, fun _ => ⟨rfl, rfl⟩, fun h => by cases h⟩
          | true =>
            refine ⟨_, _, 0, rfl, fun h => (h rfl).elim, fun _ => ⟨_, b, q, hh, hI', rfl, hok, rfl, hlen, hq, fun j hj => ?_, rfl⟩⟩
            exact List.all_eq_true.1 hall j (List.mem_range.2 hj)
  · exact ⟨_, _, _, Parse_bad s (by omega) hh, fun _ => ⟨rfl, rfl⟩, fun h => by cases h⟩
end Go.LM
end

