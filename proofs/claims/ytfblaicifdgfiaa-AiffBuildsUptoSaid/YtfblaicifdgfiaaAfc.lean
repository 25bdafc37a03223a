/- Afc: AfX AfY AfZ. -/
import Derived.Test.YtfblaicifdgfiaaAfb
import Derived.Test.YtfblaicifdgfiaaAfR
section
set_option linter.unusedVariables false
set_option linter.unusedSimpArgs false
set_option maxRecDepth 10000
namespace Go.LM
open Go
abbrev PcmD : Type := Int × Int × Int × List (List Int) × PUnit
abbrev AiD : Type := List UInt8 × List ChunkD × Unit
def zAi : AiD := ([], [], ())
def foV : List UInt8 := [70, 79, 82, 77]
def afV : List UInt8 := [65, 73, 70, 70]
def acV : List UInt8 := [65, 73, 70, 67]
def coV : List UInt8 := [67, 79, 77, 77]
def snV : List UInt8 := [83, 83, 78, 68]
def isC (s : List UInt8) : Bool := (s.drop 8).take 4 == acV
def hdB (s : List UInt8) : Bool := decide (s.length < 12) || (!(s.take 4 == foV) || (!((s.drop 8).take 4 == afV) && !isC s))
def chs (s : List UInt8) : List ChunkD × Int := chV true ((s.drop 12).length + 1) (s.drop 12) []
def commB (l : List ChunkD) : List UInt8 := (l.getD (ixL coV l 0).toNat zCh).2.1
def sndB (l : List ChunkD) : List UInt8 := (l.getD (ixL snV l 0).toNat zCh).2.1
def sndCut (l : List ChunkD) : Nat := 8 + beV ((sndB l).take 4)
def sndBad (l : List ChunkD) : Bool := ctL snV l == 1 && decide ((sndB l).length < 8 ∨ (sndB l).length < sndCut l)
def dataL (l : List ChunkD) : List UInt8 := bif ctL snV l == 1 then (sndB l).drop (sndCut l) else []
def cutL (l : List ChunkD) : List ChunkD := bif ctL snV l == 1 then l.set (ixL snV l 0).toNat ((l.getD (ixL snV l 0).toNat zCh).1, (sndB l).take (sndCut l), (l.getD (ixL snV l 0).toNat zCh).2.2) else l
def wantN (b : List UInt8) : Nat := cmN b * cmC b * cmW b / 8
def ctBad (l : List ChunkD) : Bool := ctL coV l != 1 || decide (1 < ctL snV l)
def unpA (s : List UInt8) (l : List ChunkD) : PcmD × Int := unpV (cmBig (commB l) (isC s)) false (cmR (commB l)).1 (cmC (commB l)) (cmW (commB l)) (cmN (commB l) * cmC (commB l)) (dataL l)
def parV2 (s : List UInt8) (l : List ChunkD) : PcmD × AiD × Int :=
  bif ctBad l then (zPcm, zAi, 2) else
  bif comE (commB l) (isC s) != 0 then (zPcm, zAi, comE (commB l) (isC s)) else
  bif sndBad l then (zPcm, zAi, 2) else bif (dataL l).length != wantN (commB l) then (zPcm, zAi, 2) else
  bif (unpA s l).2 != 0 then (zPcm, zAi, (unpA s l).2) else ((unpA s l).1, ((s.drop 8).take 4, cutL l, ()), 0)
def parV (s : List UInt8) : PcmD × AiD × Int :=
  bif hdB s then (zPcm, zAi, 3) else bif decide (67108864 < s.length) then (zPcm, zAi, 5) else bif decide (beV ((s.drop 4).take 4) + 8 ≠ s.length) then (zPcm, zAi, 2) else
  bif (chs s).2 != 0 then (zPcm, zAi, (chs s).2) else parV2 s (chs s).1
theorem comE_good {s : List UInt8} {c : Bool} (h : comE s c = 0) : (bif c then s.length = cmPad s else s.length = 18) ∧ (c = true → cmSo s = true ∨ cmNo s = true) ∧ (cmR s).2 = 0 ∧ 1 ≤ cmC s ∧ cmC s ≤ 8 ∧ (cmW s = 8 ∨ cmW s = 16 ∨ cmW s = 24 ∨ cmW s = 32) ∧ cmN s ≤ 1048576 ∧ 18 ≤ s.length := by
  unfold comE at h
  cases h1 : (bif c then decide (s.length < 23) else s.length != 18) with
  | true => rw [h1, cond_true] at h; exact absurd h (by decide)
  | false =>
    rw [h1, cond_false] at h
    cases h2 : c && s.length != cmPad s with
    | true => rw [h2, cond_true] at h; exact absurd h (by decide)
    | false =>
      rw [h2, cond_false] at h
      cases h3 : c && (!cmSo s && !cmNo s) with
      | true => rw [h3, cond_true] at h; exact absurd h (by decide)
      | false =>
        rw [h3, cond_false] at h
        unfold tlE at h
        cases h4 : (cmR s).2 != 0 with
        | true => rw [h4, cond_true] at h; rw [h] at h4; exact absurd h4 (by decide)
        | false =>
          rw [h4, cond_false] at h
          cases h5 : cmC s == 0 with
          | true => rw [h5, cond_true] at h; exact absurd h (by decide)
          | false =>
            rw [h5, cond_false] at h
            cases h6 : decide (8 < cmC s ∨ cmW s = 0 ∨ 32 < cmW s ∨ cmW s % 8 ≠ 0) with
            | true => rw [h6, cond_true] at h; exact absurd h (by decide)
            | false =>
              rw [h6, cond_false] at h
              cases h7 : decide (1048576 < cmN s) with
              | true => rw [h7, cond_true] at h; exact absurd h (by decide)
              | false =>
                have h4 : (cmR s).2 = 0 := by simpa using h4
                have h5 := beq_eq_false_iff_ne.1 h5
                have h6 := of_decide_eq_false h6
                have h7 := of_decide_eq_false h7
                refine ⟨?_, ?_, h4, by omega, by omega, by omega, by omega, ?_⟩
                · cases c with
                  | true => rw [cond_true]; simpa using h2
                  | false => rw [cond_false]; simpa using h1
                · intro e
                  rw [e] at h3
                  cases hs : cmSo s with
                  | true => exact .inl rfl
                  | false => rw [hs] at h3; exact .inr (by simpa using h3)
                · cases c with
                  | true => have := of_decide_eq_false h1; omega
                  | false => have : s.length = 18 := by simpa using h1
                             omega
theorem ct_none {l : List ChunkD} (h : ctBad l = false) : ctL coV l = 1 ∧ ctL snV l ≤ 1 := by
  unfold ctBad at h
  rw [Bool.or_eq_false_iff] at h
  have h1 : ctL coV l = 1 := by simpa using h.1
  have h2 := of_decide_eq_false h.2
  exact ⟨h1, by omega⟩
theorem ix_bd {l : List ChunkD} {id : List UInt8} (h : 1 ≤ ctL id l) : 0 ≤ ixL id l 0 ∧ ixL id l 0 < l.length := by
  obtain ⟨pre, c, post, e1, e2, e3, e4⟩ := ixL_some id l 0 h
  have : l.length = pre.length + 1 + post.length := by rw [e1, List.length_append, List.length_cons]; omega
  omega
theorem takeAll {α : Type} (s : List α) (k : Nat) (n : Int) (h : n = (s.length : Int) - (k : Int)) : (s.drop k).take n.toNat = s.drop k := by
  apply List.take_of_length_le
  rw [List.length_drop]; omega
end Go.LM
namespace Go.Proofs.Ytfblaicifdgfiaa.Dg
open Go.LM
theorem HasPrefix_eq (s : List UInt8) (h : 4 ≤ s.length) : LQ.HasPrefix s [(70 : UInt8), (79 : UInt8), (82 : UInt8), (77 : UInt8)] = some (s.take 4 == foV) := by
  unfold LQ.HasPrefix LQ.HasPrefix.t LQ.HasPrefix0 LQ.HasPrefix0.t
  simp only [Tr.run_bind, Tr.run_br, Tr.run_ret]
  rw [decide_eq_true (by simp only [Int.ofNat_eq_natCast, List.length_cons, List.length_nil]; omega), cond_true, Tr.run_need _ (by simp only [Int.ofNat_eq_natCast, List.length_cons, List.length_nil]; omega)]
  rfl
theorem kind_of {b : List UInt8} {c : Bool} (h : comE b c = 0) : ∃ n : Nat, 1 ≤ n ∧ n ≤ 655350 ∧ (cmR b).1 = (n : Int) ∧ (b.drop 8).take 10 = rateV n ∧ okKind (cmR b).1 (cmC b) (cmW b) = true := by
  obtain ⟨h1, h0, h2, h3, h4, h5, h6, h7⟩ := comE_good h
  obtain ⟨n, g1, g2, g3, g4⟩ := frV_good h2
  refine ⟨n, g1, g2, g4, g3, ?_⟩
  unfold okKind
  exact decide_eq_true (by rw [show (cmR b).1 = (n : Int) from g4]; omega)
theorem want_eq {b : List UInt8} {c : Bool} (h : comE b c = 0) : wantN b = cmN b * cmC b * bwN (cmW b) ∧ w64 ((w64 (w64 ((cmN b : Int) * (cmC b : Int)) * (cmW b : Int))).tdiv (8 : Int)) = (wantN b : Int) := by
  obtain ⟨h1, h0, h2, h3, h4, h5, h6, h7⟩ := comE_good h
  have hm : cmN b * cmC b ≤ 1048576 * 8 := Nat.mul_le_mul h6 h4
  unfold wantN bwN
  rw [show (cmN b : Int) * (cmC b : Int) = ((cmN b * cmC b : Nat) : Int) from (Int.natCast_mul _ _).symm]
  generalize cmN b * cmC b = M at hm
  rcases h5 with h5 | h5 | h5 | h5 <;> rw [h5] <;> (refine ⟨by omega, ?_⟩; rw [w64_id (x := (M : Int)) (by omega), w64_id (x := (M : Int) * _) (by omega), Int.tdiv_eq_ediv_of_nonneg (by omega)]; rw [w64_id] <;> omega)
theorem len0 (b : List UInt8) (h : b.length ≤ 1099511627776) : w64 (Int.ofNat b.length - (8 : Int)) = (b.length : Int) - 8 := by
  simp only [Int.ofNat_eq_natCast]; rw [w64_id (by omega)]
theorem Parse_eq (s : List UInt8) : LQ.Parse s = some (parV s) := by
  unfold LQ.Parse LQ.Parse.t
  rw [Tr.run_bind]
  generalize hX : (Tr.br (decide (Int.ofNat s.length < (12 : Int))) _ _).run = o
  have ho : o = some (hdB s, ((0 : Int), (0 : Int), (0 : Int)), []) := by
    rw [← hX, Tr.run_br]
    unfold hdB
    by_cases h : s.length < 12
    · rw [decide_eq_true (by simp only [Int.ofNat_eq_natCast]; omega), decide_eq_true h]; rfl
    · rw [decide_eq_false (by simp only [Int.ofNat_eq_natCast]; omega), decide_eq_false h, cond_false, Bool.false_or, Tr.run_bind, HasPrefix_eq s (by omega), someBind, Tr.run_br]
      cases s.take 4 == foV with
      | false => rfl
      | true =>
        rw [Bool.not_true, cond_false, Bool.false_or, Tr.run_need _ (by simp only [Int.ofNat_eq_natCast]; omega), Tr.run_br, Tr.run_need _ (by simp only [Int.ofNat_eq_natCast]; omega)]
        change (bif !((s.drop 8).take 4 == afV) then _ else _) = _
        cases (s.drop 8).take 4 == afV <;> rfl
  clear hX
  rw [bindT ho]
  dsimp only
  rw [Tr.run_br]
  cases h0 : hdB s with
  | true =>
    rw [show parV s = (zPcm, zAi, 3) by unfold parV; rw [h0]; rfl]; rfl
  | false =>
    have h12 : 12 ≤ s.length := by
      unfold hdB at h0
      rw [Bool.or_eq_false_iff] at h0
      have := of_decide_eq_false h0.1; omega
    have p1 : parV s = bif decide (67108864 < s.length) then (zPcm, zAi, 5) else bif decide (beV ((s.drop 4).take 4) + 8 ≠ s.length) then (zPcm, zAi, 2) else bif (chs s).2 != 0 then (zPcm, zAi, (chs s).2) else parV2 s (chs s).1 := by unfold parV; rw [h0]; rfl
    rw [p1, cond_false, Tr.run_br]
    have t12 : List.take (Int.ofNat s.length - 12).toNat (List.drop 12 s) = s.drop 12 := takeAll s 12 _ rfl
    by_cases h1 : 67108864 < s.length
    · rw [decide_eq_true (by simp only [Int.ofNat_eq_natCast]; omega), decide_eq_true h1]; rfl
    · have hch : LQ.Chunks (s.drop 12) true = some ((chs s).2, (chs s).1) := Chunks_eq _ true (by rw [List.length_drop]; omega)
      rw [decide_eq_false (by simp only [Int.ofNat_eq_natCast]; omega), decide_eq_false h1, cond_false, cond_false, Tr.run_need _ (by simp only [Int.ofNat_eq_natCast]; omega), Tr.run_bind, bFromBe_eq _ (by rw [List.length_take]; omega), someBind, Tr.run_br, len0 s (by omega)]
      by_cases h2 : beV ((s.drop 4).take 4) + 8 ≠ s.length
      · rw [show (((beV ((s.drop 4).take 4) : Nat) : Int) != (s.length : Int) - 8) = true by rw [bne_iff_ne]; omega, decide_eq_true h2]; rfl
      · rw [show (((beV ((s.drop 4).take 4) : Nat) : Int) != (s.length : Int) - 8) = false by rw [bne_eq_false_iff_eq]; omega, decide_eq_false h2, cond_false, cond_false, Tr.run_need _ (by simp only [Int.ofNat_eq_natCast]; omega), Tr.run_bind, t12, hch, someBind]
        dsimp only
        rw [Tr.run_br]
        cases h3 : (chs s).2 != 0 with
        | true => rfl
        | false =>
          rw [cond_false, cond_false]
          have h3 : (chs s).2 = 0 := by simpa using h3
          obtain ⟨l', e1, e2, e3⟩ := chV_inv _ (s.drop 12) [] (chs s).1 (Nat.lt_succ_self _) (by rw [List.length_drop]; omega) (by rw [← h3]; rfl)
          rw [List.nil_append] at e1
          have hn : (chs s).1.length ≤ 1024 := chV_len true _ _ [] (by simp)
          have hb : ∀ k, ((chs s).1.getD k zCh).2.1.length ≤ 67108864 := fun k => by
            have h4 := body_le e3 k
            rw [← e2, List.length_drop] at h4
            rw [e1]; omega
          generalize (chs s).1 = l at hn hb
          clear e1 e2 e3 h3
          have r1 : LQ.only l [(67 : UInt8), (79 : UInt8), (77 : UInt8), (77 : UInt8)] = _ := only_eq l coV (by omega)
          have r2 : LQ.only l [(83 : UInt8), (83 : UInt8), (78 : UInt8), (68 : UInt8)] = _ := only_eq l snV (by omega)
          rw [Tr.run_bind, r1, someBind]
          dsimp only
          rw [Tr.run_bind, r2, someBind]
          dsimp only
          rw [Tr.run_bind]
          generalize hX : (Tr.br (decide (ixL coV l 0 < (0 : Int))) _ _).run = o3
          have ho3 : o3 = some (ctBad l, ((0 : Int), (0 : Int), (0 : Int)), [], l) := by
            rw [← hX]
            unfold ctBad
            by_cases hc : ctL coV l = 0
            · rw [ixL_none coV l 0 hc, hc]; rfl
            · have := ix_bd (l := l) (id := coV) (by omega)
              rw [decide_eq_false (by omega)]
              by_cases hc1 : ctL coV l = 1
              · rw [hc1]
                by_cases hc2 : ctL snV l ≤ 1
                · rw [decide_eq_true hc2, decide_eq_false (p := 1 < ctL snV l) (by omega)]; rfl
                · rw [decide_eq_false hc2, decide_eq_true (p := 1 < ctL snV l) (by omega)]; rfl
              · rw [decide_eq_false (p := ctL coV l ≤ 1) (by omega), show (ctL coV l != 1) = true by rw [bne_iff_ne]; exact hc1]; rfl
          clear hX
          rw [bindT ho3]
          dsimp only
          rw [Tr.run_br]
          unfold parV2
          cases h4 : ctBad l with
          | true => rfl
          | false =>
            obtain ⟨c1, c2⟩ := ct_none h4
            have b1 := ix_bd (l := l) (id := coV) (by omega)
            rw [cond_false, cond_false, Tr.run_need _ (by simp only [Int.ofNat_eq_natCast]; omega), Tr.run_need _ (by simp only [Int.ofNat_eq_natCast]; omega), Tr.run_bind]
            obtain ⟨x, q1, q2⟩ := read_eq (commB l) (isC s) (by have := hb (ixL coV l 0).toNat; unfold commB; omega)
            change ((LQ.read (commB l) (isC s)).bind _) = _
            rw [q1, someBind]
            dsimp only
            rw [Tr.run_br]
            cases h5 : comE (commB l) (isC s) != 0 with
            | true => rfl
            | false =>
              have h5 : comE (commB l) (isC s) = 0 := by simpa using h5
              rw [q2 h5, cond_false, cond_false]
              dsimp only
              rw [Tr.run_bind]
              generalize hX : (Tr.br (decide (ixL snV l 0 ≥ (0 : Int))) _ _).run = o4
              have ho4 : o4 = some (bif sndBad l then .inl ((2 : Int), ((0 : Int), (0 : Int), (0 : Int), []), [], []) else .inr (dataL l, ((0 : Int), (0 : Int), (0 : Int)), [], cutL l, (cmR (commB l)).1, (cmC (commB l) : Int), (cmW (commB l) : Int), (cmN (commB l) : Int), cmBig (commB l) (isC s), false)) := by
                rw [← hX, Tr.run_br]
                unfold sndBad dataL cutL
                by_cases hc : ctL snV l = 0
                · rw [ixL_none snV l 0 hc, hc]; rfl
                · have b2 := ix_bd (l := l) (id := snV) (by omega)
                  have hc1 : ctL snV l = 1 := by omega
                  have hbl := hb (ixL snV l 0).toNat
                  have n1 : (sndB l).length ≤ 67108864 := hbl
                  rw [decide_eq_true (by omega), hc1, cond_true, Tr.run_need _ (by simp only [Int.ofNat_eq_natCast]; omega), Tr.run_bind]
                  have eB : (l.getD (ixL snV l 0).toNat ([], [], (0 : Int), ())).2.1 = sndB l := rfl
                  simp only [beq_self_eq_true, Bool.true_and, cond_true, eB]
                  rw [Tr.run_br]
                  by_cases hd : (sndB l).length < 8
                  · rw [decide_eq_true (p := Int.ofNat (sndB l).length < (8 : Int)) (by simp only [Int.ofNat_eq_natCast]; omega), decide_eq_true (p := (sndB l).length < 8 ∨ (sndB l).length < sndCut l) (.inl hd)]; rfl
                  · rw [decide_eq_false (p := Int.ofNat (sndB l).length < (8 : Int)) (by simp only [Int.ofNat_eq_natCast]; omega), cond_false]
                    have m1 : (0 : Int) ≤ 0 ∧ (0 : Int) ≤ 4 ∧ (4 : Int) ≤ Int.ofNat (sndB l).length := by simp only [Int.ofNat_eq_natCast]; omega
                    have f1 : LQ.bytes_FromBe (List.take 4 (List.drop 0 (sndB l))) = some ((beV ((sndB l).take 4) : Nat) : Int) := bFromBe_eq ((sndB l).take 4) (by rw [List.length_take]; omega)
                    rw [Tr.run_need _ m1, Tr.run_bind, f1, someBind, Tr.run_ret, someBind]
                    have hlt := beV_lt ((sndB l).take 4)
                    rw [List.length_take, Nat.min_eq_left (by omega)] at hlt
                    have e0 : w64 (Int.ofNat (sndB l).length - (8 : Int)) = ((sndB l).length : Int) - 8 := len0 (sndB l) (by omega)
                    rw [e0, Tr.run_br]
                    have e1 : w64 ((8 : Int) + ((beV ((sndB l).take 4) : Nat) : Int)) = (sndCut l : Int) := by unfold sndCut; rw [w64_id (by omega)]; omega
                    by_cases hg : (sndB l).length < sndCut l
                    · have hg2 := hg
                      unfold sndCut at hg2
                      rw [decide_eq_true (p := ((beV ((sndB l).take 4) : Nat) : Int) > _) (by omega), decide_eq_true (p := (sndB l).length < 8 ∨ (sndB l).length < sndCut l) (.inr hg)]; rfl
                    · have hg2 := hg
                      unfold sndCut at hg2
                      rw [decide_eq_false (p := ((beV ((sndB l).take 4) : Nat) : Int) > _) (by omega), decide_eq_false (p := (sndB l).length < 8 ∨ (sndB l).length < sndCut l) (by omega), cond_false, cond_false]
                      rw [Tr.run_need _ m1, Tr.run_bind, someBind, e1]
                      dsimp only
                      have m2 : (0 : Int) ≤ 0 ∧ (0 : Int) ≤ (sndCut l : Int) ∧ (sndCut l : Int) ≤ Int.ofNat (sndB l).length := by simp only [Int.ofNat_eq_natCast]; omega
                      have m3 : (0 : Int) ≤ (sndCut l : Int) ∧ (sndCut l : Int) ≤ Int.ofNat (sndB l).length ∧ Int.ofNat (sndB l).length ≤ Int.ofNat (sndB l).length := by simp only [Int.ofNat_eq_natCast]; omega
                      rw [Tr.run_need _ m2, Tr.run_need _ m3, Tr.run_need _ (by simp only [Int.ofNat_eq_natCast]; omega), Tr.run_ret]
                      have e2 : List.take (Int.ofNat (sndB l).length - (sndCut l : Int)).toNat (List.drop ((sndCut l : Nat) : Int).toNat (sndB l)) = (sndB l).drop (sndCut l) := by
                        rw [Int.toNat_natCast]; exact takeAll (sndB l) (sndCut l) _ rfl
                      have e3 : List.take ((sndCut l : Int) - 0).toNat (List.drop 0 (sndB l)) = (sndB l).take (sndCut l) := by
                        rw [Int.sub_zero, Int.toNat_natCast]; rfl
                      simp only [e2, e3]
                      rfl
              clear hX
              rw [bindT ho4]
              cases h6 : sndBad l with
              | true => rfl
              | false =>
                rw [cond_false, cond_false, Tr.run_csr]
                dsimp only
                rw [Tr.run_br]
                obtain ⟨w1, w2⟩ := want_eq h5
                simp only [w2]
                rw [lenNeq]
                cases h7 : (dataL l).length != wantN (commB l) with
                | true => rfl
                | false =>
                  rw [cond_false, cond_false, Tr.run_bind]
                  have h7 : (dataL l).length = wantN (commB l) := by simpa using h7
                  obtain ⟨n, k1, k2, k3, k4, k5⟩ := kind_of h5
                  have hN := (comE_good h5).2.2.2.2.2.2.1
                  have hu := Unpack_ok (dataL l) (cmR (commB l)).1 (cmC (commB l)) (cmW (commB l)) (cmN (commB l)) (cmBig (commB l) (isC s)) false k5 (by rw [h7, w1]) hN
                  change ((LQ.pcm_Unpack (dataL l) (cmR (commB l)).1 (cmC (commB l)) (cmW (commB l)) (cmBig (commB l) (isC s), false, ())).bind _) = _
                  rw [hu, someBind]
                  skip
                  rw [Tr.run_br]
                  change (bif (unpA s l).2 != 0 then _ else _) = _
                  cases h8 : (unpA s l).2 != 0 with
                  | true => rfl
                  | false =>
                    rw [cond_false, cond_false, Tr.run_need _ (by simp only [Int.ofNat_eq_natCast]; omega)]
                    rfl
end Go.Proofs.Ytfblaicifdgfiaa.Dg
end

section
set_option linter.unusedVariables false
set_option linter.unusedSimpArgs false
set_option maxRecDepth 10000
namespace Go.Proofs.Ytfblaicifdgfiaa.Dg
open Go.LM
theorem rParse_eq (s : List UInt8) : LQ.r7_Parse s = some (parV s) := by
  unfold LQ.r7_Parse LQ.r7_Parse.t
  rw [Tr.run_bind]
  generalize hX : (Tr.br (decide (Int.ofNat s.length < (12 : Int))) _ _).run = o
  have ho : o = some (hdB s, ((0 : Int), (0 : Int), (0 : Int)), [], (0 : Int), (0 : Int), (0 : Int)) := by
    rw [← hX, Tr.run_br]
    unfold hdB
    by_cases h : s.length < 12
    · rw [decide_eq_true (by simp only [Int.ofNat_eq_natCast]; omega), decide_eq_true h]; rfl
    · rw [decide_eq_false (by simp only [Int.ofNat_eq_natCast]; omega), decide_eq_false h, cond_false, Bool.false_or, Tr.run_need _ (by simp only [Int.ofNat_eq_natCast]; omega), Tr.run_br]
      change (bif !(s.take 4 == foV) then _ else _) = _
      cases s.take 4 == foV with
      | false => rfl
      | true =>
        rw [Bool.not_true, cond_false, Bool.false_or, Tr.run_need _ (by simp only [Int.ofNat_eq_natCast]; omega), Tr.run_br, Tr.run_need _ (by simp only [Int.ofNat_eq_natCast]; omega)]
        change (bif !((s.drop 8).take 4 == afV) then _ else _) = _
        cases (s.drop 8).take 4 == afV <;> rfl
  clear hX
  rw [bindT ho]
  dsimp only
  rw [Tr.run_br]
  cases h0 : hdB s with
  | true =>
    rw [show parV s = (zPcm, zAi, 3) by unfold parV; rw [h0]; rfl]; rfl
  | false =>
    have h12 : 12 ≤ s.length := by
      unfold hdB at h0
      rw [Bool.or_eq_false_iff] at h0
      have := of_decide_eq_false h0.1; omega
    have p1 : parV s = bif decide (67108864 < s.length) then (zPcm, zAi, 5) else bif decide (beV ((s.drop 4).take 4) + 8 ≠ s.length) then (zPcm, zAi, 2) else bif (chs s).2 != 0 then (zPcm, zAi, (chs s).2) else parV2 s (chs s).1 := by unfold parV; rw [h0]; rfl
    rw [p1, cond_false, Tr.run_br]
    have t12 : List.take (Int.ofNat s.length - 12).toNat (List.drop 12 s) = s.drop 12 := takeAll s 12 _ rfl
    by_cases h1 : 67108864 < s.length
    · rw [decide_eq_true (by simp only [Int.ofNat_eq_natCast]; omega), decide_eq_true h1]; rfl
    · have hch : LQ.r6_Chunks (s.drop 12) true = some ((chs s).2, (chs s).1) := rChunks_eq _ true (by rw [List.length_drop]; omega)
      rw [decide_eq_false (by simp only [Int.ofNat_eq_natCast]; omega), decide_eq_false h1, cond_false, cond_false, Tr.run_need _ (by simp only [Int.ofNat_eq_natCast]; omega), Tr.run_bind, FromBe_eq _ (by rw [List.length_take]; omega), someBind, Tr.run_br, len0 s (by omega)]
      by_cases h2 : beV ((s.drop 4).take 4) + 8 ≠ s.length
      · rw [show (((beV ((s.drop 4).take 4) : Nat) : Int) != (s.length : Int) - 8) = true by rw [bne_iff_ne]; omega, decide_eq_true h2]; rfl
      · rw [show (((beV ((s.drop 4).take 4) : Nat) : Int) != (s.length : Int) - 8) = false by rw [bne_eq_false_iff_eq]; omega, decide_eq_false h2, cond_false, cond_false, Tr.run_need _ (by simp only [Int.ofNat_eq_natCast]; omega), Tr.run_bind, t12, hch, someBind]
        dsimp only
        rw [Tr.run_br]
        cases h3 : (chs s).2 != 0 with
        | true => rfl
        | false =>
          rw [cond_false, cond_false]
          have h3 : (chs s).2 = 0 := by simpa using h3
          obtain ⟨l', e1, e2, e3⟩ := chV_inv _ (s.drop 12) [] (chs s).1 (Nat.lt_succ_self _) (by rw [List.length_drop]; omega) (by rw [← h3]; rfl)
          rw [List.nil_append] at e1
          have hn : (chs s).1.length ≤ 1024 := chV_len true _ _ [] (by simp)
          have hb : ∀ k, ((chs s).1.getD k zCh).2.1.length ≤ 67108864 := fun k => by
            have h4 := body_le e3 k
            rw [← e2, List.length_drop] at h4
            rw [e1]; omega
          generalize (chs s).1 = l at hn hb
          clear e1 e2 e3 h3
          have r1 : LQ.find l [(67 : UInt8), (79 : UInt8), (77 : UInt8), (77 : UInt8)] = _ := find_eq l coV (by omega)
          have r2 : LQ.find l [(83 : UInt8), (83 : UInt8), (78 : UInt8), (68 : UInt8)] = _ := find_eq l snV (by omega)
          rw [Tr.run_bind, r1, someBind]
          dsimp only
          rw [Tr.run_bind, r2, someBind]
          dsimp only
          rw [Tr.run_bind]
          generalize hX : (Tr.br ((ctL coV l : Int) != (1 : Int)) _ _).run = o3
          have ho3 : o3 = some (ctBad l, ((0 : Int), (0 : Int), (0 : Int)), [], ((0 : Int), (0 : Int), (0 : Int)), l) := by
            rw [← hX]
            unfold ctBad
            have e1 : ((ctL coV l : Int) != (1 : Int)) = (ctL coV l != 1) := by
              rw [Bool.eq_iff_iff, bne_iff_ne, bne_iff_ne]; omega
            have e2 : decide ((ctL snV l : Int) > (1 : Int)) = decide (1 < ctL snV l) := by
              rw [Bool.eq_iff_iff, decide_eq_true_eq, decide_eq_true_eq]; omega
            rw [e1, e2]
            cases ctL coV l != 1 <;> rfl
          clear hX
          rw [bindT ho3]
          dsimp only
          rw [Tr.run_br]
          unfold parV2
          cases h4 : ctBad l with
          | true => rfl
          | false =>
            obtain ⟨c1, c2⟩ := ct_none h4
            have b1 := ix_bd (l := l) (id := coV) (by omega)
            rw [laL_one coV l 0 (-1) c1, cond_false, cond_false, Tr.run_need _ (by simp only [Int.ofNat_eq_natCast]; omega), Tr.run_need _ (by simp only [Int.ofNat_eq_natCast]; omega), Tr.run_bind]
            obtain ⟨x, q1, q2⟩ := comm_eq (commB l) (isC s) (by have := hb (ixL coV l 0).toNat; unfold commB; omega)
            change ((LQ.comm (commB l) (isC s)).bind _) = _
            rw [q1, someBind]
            dsimp only
            rw [Tr.run_br]
            cases h5 : comE (commB l) (isC s) != 0 with
            | true => rfl
            | false =>
              have h5 : comE (commB l) (isC s) = 0 := by simpa using h5
              rw [q2 h5, cond_false, cond_false]
              dsimp only
              rw [Tr.run_bind]
              generalize hX : (Tr.br ((ctL snV l : Int) == (1 : Int)) _ _).run = o4
              have ho4 : o4 = some (bif sndBad l then .inl ((2 : Int), ((0 : Int), (0 : Int), (0 : Int)), []) else .inr (dataL l, ((0 : Int), (0 : Int), (0 : Int)), [], ((0 : Int), (0 : Int), (0 : Int)), cutL l, (cmR (commB l)).1, (cmC (commB l) : Int), (cmW (commB l) : Int), [], (cmN (commB l) : Int), !cmBig (commB l) (isC s))) := by
                rw [← hX, Tr.run_br]
                unfold sndBad dataL cutL
                by_cases hc : ctL snV l = 0
                · rw [hc]; rfl
                · have b2 := ix_bd (l := l) (id := snV) (by omega)
                  have hc1 : ctL snV l = 1 := by omega
                  have hbl := hb (ixL snV l 0).toNat
                  have n1 : (sndB l).length ≤ 67108864 := hbl
                  rw [laL_one snV l 0 (-1) hc1, hc1, show ((((1 : Nat) : Int)) == (1 : Int)) = true from rfl, cond_true, Tr.run_need _ (by simp only [Int.ofNat_eq_natCast]; omega), Tr.run_bind]
                  have eB : (l.getD (ixL snV l 0).toNat ([], [], (0 : Int), ())).2.1 = sndB l := rfl
                  simp only [beq_self_eq_true, Bool.true_and, cond_true, eB]
                  rw [Tr.run_br]
                  by_cases hd : (sndB l).length < 8
                  · rw [decide_eq_true (p := Int.ofNat (sndB l).length < (8 : Int)) (by simp only [Int.ofNat_eq_natCast]; omega), decide_eq_true (p := (sndB l).length < 8 ∨ (sndB l).length < sndCut l) (.inl hd)]; rfl
                  · rw [decide_eq_false (p := Int.ofNat (sndB l).length < (8 : Int)) (by simp only [Int.ofNat_eq_natCast]; omega), cond_false]
                    have m1 : (0 : Int) ≤ 0 ∧ (0 : Int) ≤ 4 ∧ (4 : Int) ≤ Int.ofNat (sndB l).length := by simp only [Int.ofNat_eq_natCast]; omega
                    have f1 : LQ.r2_FromBe (List.take 4 (List.drop 0 (sndB l))) = some ((beV ((sndB l).take 4) : Nat) : Int) := FromBe_eq ((sndB l).take 4) (by rw [List.length_take]; omega)
                    rw [Tr.run_need _ m1, Tr.run_bind, f1, someBind, Tr.run_ret, someBind]
                    have hlt := beV_lt ((sndB l).take 4)
                    rw [List.length_take, Nat.min_eq_left (by omega)] at hlt
                    have e0 : w64 (Int.ofNat (sndB l).length - (8 : Int)) = ((sndB l).length : Int) - 8 := len0 (sndB l) (by omega)
                    rw [e0, Tr.run_br]
                    have e1 : w64 ((8 : Int) + ((beV ((sndB l).take 4) : Nat) : Int)) = (sndCut l : Int) := by unfold sndCut; rw [w64_id (by omega)]; omega
                    by_cases hg : (sndB l).length < sndCut l
                    · have hg2 := hg
                      unfold sndCut at hg2
                      rw [decide_eq_true (p := _ < ((beV ((sndB l).take 4) : Nat) : Int)) (by omega), decide_eq_true (p := (sndB l).length < 8 ∨ (sndB l).length < sndCut l) (.inr hg)]; rfl
                    · have hg2 := hg
                      unfold sndCut at hg2
                      rw [decide_eq_false (p := _ < ((beV ((sndB l).take 4) : Nat) : Int)) (by omega), decide_eq_false (p := (sndB l).length < 8 ∨ (sndB l).length < sndCut l) (by omega), cond_false, cond_false]
                      rw [Tr.run_need _ m1, Tr.run_bind, someBind, e1]
                      dsimp only
                      have m2 : (0 : Int) ≤ 0 ∧ (0 : Int) ≤ (sndCut l : Int) ∧ (sndCut l : Int) ≤ Int.ofNat (sndB l).length := by simp only [Int.ofNat_eq_natCast]; omega
                      have m3 : (0 : Int) ≤ (sndCut l : Int) ∧ (sndCut l : Int) ≤ Int.ofNat (sndB l).length ∧ Int.ofNat (sndB l).length ≤ Int.ofNat (sndB l).length := by simp only [Int.ofNat_eq_natCast]; omega
                      rw [Tr.run_need _ m3, Tr.run_need _ m2, Tr.run_need _ (by simp only [Int.ofNat_eq_natCast]; omega), Tr.run_ret]
                      have e2 : List.take (Int.ofNat (sndB l).length - (sndCut l : Int)).toNat (List.drop ((sndCut l : Nat) : Int).toNat (sndB l)) = (sndB l).drop (sndCut l) := by
                        rw [Int.toNat_natCast]; exact takeAll (sndB l) (sndCut l) _ rfl
                      have e3 : List.take ((sndCut l : Int) - 0).toNat (List.drop 0 (sndB l)) = (sndB l).take (sndCut l) := by
                        rw [Int.sub_zero, Int.toNat_natCast]; rfl
                      simp only [e2, e3]
                      rfl
              clear hX
              rw [bindT ho4]
              cases h6 : sndBad l with
              | true => rfl
              | false =>
                rw [cond_false, cond_false, Tr.run_csr]
                dsimp only
                rw [Tr.run_br]
                obtain ⟨w1, w2⟩ := want_eq h5
                simp only [w2]
                rw [lenNeq]
                cases h7 : (dataL l).length != wantN (commB l) with
                | true => rfl
                | false =>
                  rw [cond_false, cond_false, Tr.run_bind, Bool.not_not]
                  have h7 : (dataL l).length = wantN (commB l) := by simpa using h7
                  obtain ⟨n, k1, k2, k3, k4, k5⟩ := kind_of h5
                  have hN := (comE_good h5).2.2.2.2.2.2.1
                  have hu := rUnpack_ok (dataL l) (cmR (commB l)).1 (cmC (commB l)) (cmW (commB l)) (cmN (commB l)) (cmBig (commB l) (isC s)) false k5 (by rw [h7, w1]) hN
                  rw [hu, someBind]
                  rw [Tr.run_br]
                  change (bif (unpA s l).2 != 0 then _ else _) = _
                  cases h8 : (unpA s l).2 != 0 with
                  | true => rfl
                  | false =>
                    rw [cond_false, cond_false, Tr.run_need _ (by simp only [Int.ofNat_eq_natCast]; omega)]
                    rfl
end Go.Proofs.Ytfblaicifdgfiaa.Dg
end

section
set_option linter.unusedVariables false
set_option linter.unusedSimpArgs false
set_option maxRecDepth 10000
namespace Go.LM
open Go Go.Proofs.Ytfblaicifdgfiaa.Dg
def sameP (p q : PcmD) : Bool := p.1 == q.1 && (p.2.1 == q.2.1 && (p.2.2.1 == q.2.2.1 && p.2.2.2.1 == q.2.2.2.1))
def addL (l : List ChunkD) (d : List UInt8) : List ChunkD := bif ctL snV l == 1 then l.set (ixL snV l 0).toNat ((l.getD (ixL snV l 0).toNat zCh).1, (l.getD (ixL snV l 0).toNat zCh).2.1.append d, (l.getD (ixL snV l 0).toNat zCh).2.2) else l
def fileV (form body : List UInt8) : List UInt8 := ((foV.append (leB (body.length + 4) 4).reverse).append form).append body
def datP (p : PcmD) (a : AiD) : List UInt8 := packV (cmBig (commB a.2.1) (a.1 == acV)) false p.2.2.1.toNat p.2.2.2.1
def outV (p : PcmD) (a : AiD) : List UInt8 := fileV a.1 (layAll true (addL a.2.1 (datP p a))).1
def endOk (p : PcmD) (a : AiD) (s : List UInt8) : Bool := (parV s).2.2 == 0 && (sameP p (parV s).1 && (a.1 == (parV s).2.1.1 && a.2.1 == (parV s).2.1.2.1))
def bldV (p : PcmD) (a : AiD) : List UInt8 × Int :=
  bif fitsV 2 p.1 p.2.1 p.2.2.1 p.2.2.2.1 != 0 then ([], fitsV 2 p.1 p.2.1 p.2.2.1 p.2.2.2.1) else
  bif ctBad a.2.1 || a.1.length != 4 then ([], 60) else
  bif comE (commB a.2.1) (a.1 == acV) != 0 then ([], 60) else
  bif (layAll true (addL a.2.1 (datP p a))).2 != 0 then ([], 60) else
  bif endOk p a (outV p a) then (outV p a, 0) else ([], 60)
def szL (l : List ChunkD) : Nat := (l.map fun c => c.1.length + c.2.1.length).sum
theorem sz_mem : ∀ (l : List ChunkD) (k : Nat), (l.getD k zCh).1.length + (l.getD k zCh).2.1.length ≤ szL l
  | [], k => by simp [zCh]
  | c :: r, 0 => by simp only [szL, List.map_cons, List.sum_cons, List.getD_cons_zero]; omega
  | c :: r, k + 1 => by
    have := sz_mem r k
    simp only [szL, List.map_cons, List.sum_cons, List.getD_cons_succ] at this ⊢; omega
theorem flat_sz : ∀ (l : List ChunkD), (l.flatMap pc).length ≤ szL l + 5 * l.length
  | [] => by simp
  | c :: r => by
    have := flat_sz r
    have h : (pc c).length ≤ _ := layV_len true c.1 c.2.1 c.2.2.1
    simp only [szL, List.flatMap_cons, List.length_append, List.map_cons, List.sum_cons, List.length_cons] at this ⊢
    omega
theorem szL_append (a b : List ChunkD) : szL (a ++ b) = szL a + szL b := by simp [szL, List.map_append, List.sum_append]
theorem addL_mid {l : List ChunkD} (d : List UInt8) (h : ctL snV l = 1) : ∃ pre c post, l = pre ++ c :: post ∧ c.1 = snV ∧ ctL snV pre = 0 ∧ ctL snV post = 0 ∧ (ixL snV l 0).toNat = pre.length ∧ addL l d = pre ++ (c.1, c.2.1 ++ d, c.2.2) :: post := by
  obtain ⟨pre, c, post, e1, e2, e3, e4⟩ := ixL_some snV l 0 (by omega)
  have e5 : (ixL snV l 0).toNat = pre.length := by rw [e4]; omega
  refine ⟨pre, c, post, e1, e2, e3, ?_, e5, ?_⟩
  · rw [e1, ctL_append, e3] at h
    have : (c.1 == snV) = true := beq_iff_eq.2 e2
    simp only [ctL, this, cond_true] at h; omega
  · unfold addL
    rw [h, e5]
    have : (l.getD pre.length zCh) = c := by rw [e1, getD_mid]
    rw [this, show ((1 : Nat) == 1) = true from rfl, cond_true, e1, set_mid]; rfl
theorem addL_sz (l : List ChunkD) (d : List UInt8) : szL (addL l d) ≤ szL l + d.length ∧ (addL l d).length = l.length := by
  by_cases h : ctL snV l = 1
  · obtain ⟨pre, c, post, e1, e2, e3, e4, e5, e6⟩ := addL_mid d h
    rw [e6, e1, szL_append, szL_append]
    refine ⟨?_, by simp only [List.length_append, List.length_cons]⟩
    simp only [szL, List.map_cons, List.sum_cons, List.length_append]; omega
  · have : addL l d = l := by unfold addL; rw [show (ctL snV l == 1) = false from beq_eq_false_iff_ne.2 h]; rfl
    rw [this]; exact ⟨by omega, rfl⟩
theorem parV_one {s : List UInt8} (h : (parV s).2.2 = 0) : ∃ l, (parV s).2.1.2.1 = cutL l ∧ ctL snV l ≤ 1 := by
  unfold parV at h ⊢
  cases h1 : hdB s with
  | true => rw [h1, cond_true] at h; exact absurd h (by decide)
  | false =>
    rw [h1, cond_false] at h
    cases h2 : decide (67108864 < s.length) with
    | true => rw [h2, cond_true] at h; exact absurd h (by decide)
    | false =>
      rw [h2, cond_false] at h
      cases h3 : decide (beV ((s.drop 4).take 4) + 8 ≠ s.length) with
      | true => rw [h3, cond_true] at h; exact absurd h (by decide)
      | false =>
        rw [h3, cond_false] at h
        cases h4 : (chs s).2 != 0 with
        | true => rw [h4, cond_true] at h; rw [show (chs s).2 = 0 from h] at h4; exact absurd h4 (by decide)
        | false =>
          rw [h4, cond_false] at h
          simp only [cond_false]
          unfold parV2 at h ⊢
          cases h5 : ctBad (chs s).1 with
          | true => rw [h5, cond_true] at h; exact absurd h (by decide)
          | false =>
            rw [h5, cond_false] at h
            simp only [cond_false]
            cases h6 : comE (commB (chs s).1) (isC s) != 0 with
            | true => rw [h6, cond_true] at h; rw [show comE (commB (chs s).1) (isC s) = 0 from h] at h6; exact absurd h6 (by decide)
            | false =>
              rw [h6, cond_false] at h
              simp only [cond_false]
              cases h7 : sndBad (chs s).1 with
              | true => rw [h7, cond_true] at h; exact absurd h (by decide)
              | false =>
                rw [h7, cond_false] at h
                simp only [cond_false]
                cases h8 : (dataL (chs s).1).length != wantN (commB (chs s).1) with
                | true => rw [h8, cond_true] at h; exact absurd h (by decide)
                | false =>
                  rw [h8, cond_false] at h
                  simp only [cond_false]
                  cases h9 : (unpA s (chs s).1).2 != 0 with
                  | true => rw [h9, cond_true] at h; rw [show (unpA s (chs s).1).2 = 0 from h] at h9; exact absurd h9 (by decide)
                  | false => exact ⟨(chs s).1, rfl, (ct_none h5).2⟩
theorem ct_cut {l : List ChunkD} (id : List UInt8) : ctL id (cutL l) = ctL id l := by
  unfold cutL
  cases h : ctL snV l == 1 with
  | false => rfl
  | true =>
    rw [cond_true]
    obtain ⟨pre, c, post, e1, e2, e3, e4⟩ := ixL_some snV l 0 (by have := beq_iff_eq.1 h; omega)
    have e5 : (ixL snV l 0).toNat = pre.length := by rw [e4]; omega
    have e6 : (l.getD pre.length zCh) = c := by rw [e1, getD_mid]
    rw [e5, e6]
    generalize (sndB l).take (sndCut l) = B
    rw [e1, set_mid, ctL_append, ctL_append]
    simp only [ctL]
theorem end_one {p : PcmD} {a : AiD} {s : List UInt8} (h : endOk p a s = true) : ctL snV a.2.1 ≤ 1 := by
  unfold endOk at h
  simp only [Bool.and_eq_true, beq_iff_eq] at h
  obtain ⟨l, e1, e2⟩ := parV_one h.1
  rw [h.2.2.2, e1, ct_cut]; exact e2
end Go.LM
namespace Go.Proofs.Ytfblaicifdgfiaa.Dg
open Go.LM
theorem SameCh_eq (a b : List ChunkD) (h : a.length ≤ 1099511627776) : LQ.r6_SameChunks a b = some (a == b) := by
  unfold LQ.r6_SameChunks LQ.r6_SameChunks.t
  rw [Tr.run_br, lenNe]
  cases hl : a.length == b.length with
  | false =>
    have : (a == b) = false := beq_eq_false_iff_ne.2 fun e => by rw [e] at hl; simp at hl
    rw [this]; rfl
  | true =>
    have hl := beq_iff_eq.1 hl
    rw [Bool.not_true, cond_false, Tr.run_bind]
    have := loopA (f := fun (d : Int) ↦ (LQ.r6_SameChunks.l0 a b d).run) (fun k => (k : Int)) (fun k => a.getD k zCh == b.getD k zCh) (.inl false) (.inr ()) a.length a.length 0 (by omega) ?_ ?_
    · refine (congrArg (fun o => Option.bind o _) this).trans ?_
      have e : (List.range a.length).all (fun k => a.getD (0 + k) zCh == b.getD (0 + k) zCh) = (a == b) := by
        have := allEqG zCh a b hl
        simpa using this
      simp only [Option.bind_some]
      first
        | rw [e]
        | rw [allEqG zCh a b hl]
      cases a == b <;> rfl
    · intro i _ hi
      simp only [LQ.r6_SameChunks.l0]
      rw [Tr.run_br, decide_eq_true (by simp only [Int.ofNat_eq_natCast]; omega), cond_true, Tr.run_need _ (by simp only [Int.ofNat_eq_natCast]; omega), Tr.run_need _ (by simp only [Int.ofNat_eq_natCast]; omega), Tr.run_br, Int.toNat_natCast]
      change (bif !(a.getD i zCh == b.getD i zCh) then _ else _) = _
      cases a.getD i zCh == b.getD i zCh
      · rfl
      · rw [Bool.not_true, cond_false, Tr.run_ret, w64_id (by omega)]; rfl
    · simp only [LQ.r6_SameChunks.l0]
      rw [Tr.run_br, decide_eq_false (by simp only [Int.ofNat_eq_natCast]; omega), cond_false, Tr.run_ret]
theorem eqCh_eq (a b : List ChunkD) (h : a.length ≤ 1099511627776) : LQ.eqChunks a b = some (a == b) := SameCh_eq a b h
theorem Same7_eq (a b : AiD) (h : a.2.1.length ≤ 1099511627776) : LQ.r7_Same a b = some (a.1 == b.1 && a.2.1 == b.2.1) := by
  unfold LQ.r7_Same LQ.r7_Same.t
  simp only [Tr.run_bind, Tr.run_br, Tr.run_ret, SameCh_eq a.2.1 b.2.1 h, someBind]
  cases a.1 == b.1 <;> rfl
end Go.Proofs.Ytfblaicifdgfiaa.Dg
end

