/- Sge: SgS SgT. -/
import Derived.Test.YtfblaicifdgfiaaSgd
import Derived.Test.YtfblaicifdgfiaaSfJ
import Derived.Test.YtfblaicifdgfiaaSga
section
set_option linter.unusedVariables false
set_option linter.unusedSimpArgs false
set_option maxRecDepth 10000
namespace Go.Proofs.Ytfblaicifdgfiaa.Dg
open Go.LM
abbrev StD : Type := Int × Int × Int × Int × Int × List Int × Int × Int × List Int × List Int
def Sb.st (s : Sb) : StD := ((s.k : Int), (s.o : Int), (s.wst : Int), (s.pr : Int), (s.sf : Int), s.cs, (s.m : Int), (s.ro : Int), s.ps, s.es)
theorem Una1_eq (n : Nat) (bs : List Bool) (hn : n ≤ 16777216) (hb : bs.length ≤ 274877906944) : LQ.Una1 (n : Int) (bs.length : Int) (pk bs) = some (0, ((bs.length + (n + 1) : Nat) : Int), pk (bs ++ unaB n)) := by
  have h := una1_eq n bs (by omega)
  unfold LQ.Una1 LQ.Una1.t
  have d1 : decide ((n : Int) < 0) = false := decide_eq_false (by omega)
  have d2 : decide ((n : Int) > 16777216) = false := decide_eq_false (by omega)
  rw [Tr.run_br, cond_false, Tr.run_bind, Tr.run_br, d1, cond_false, Tr.run_ret, someBind, d2]
  dsimp only
  rw [Tr.run_br, cond_false, Tr.run_bind, h]
  rfl
theorem wst_part (wst : Nat) (bs : List Bool) (st : StD) (hw : wst ≤ 33) (hb : bs.length ≤ 274877906000) :
    (Tr.br ((wst : Int) == (0 : Int)) (Tr.bind (Int × Int × List UInt8) (LQ.put1 ((0 : Int), (1 : Int)) (bs.length : Int) (pk bs)) ((0 : Int), (0 : Int), []) fun (r3 : Int × Int × List UInt8) ↦ Tr.ret (r3.snd.fst, st, r3.snd.snd)) (Tr.bind (Int × Int × List UInt8) (LQ.put1 ((1 : Int), (1 : Int)) (bs.length : Int) (pk bs)) ((0 : Int), (0 : Int), []) fun (r4 : Int × Int × List UInt8) ↦ Tr.bind (Int × Int × List UInt8) (LQ.Una1 (w64 ((wst : Int) - (1 : Int))) r4.snd.fst r4.snd.snd) ((0 : Int), (0 : Int), []) fun (r5 : Int × Int × List UInt8) ↦ Tr.ret (r5.snd.fst, st, r5.snd.snd))).run
    = some (((bs.length + (wst + 1) : Nat) : Int), st, pk (bs ++ wsBits wst)) := by
  rw [Tr.run_br]
  by_cases hz : wst = 0
  · subst hz
    have hp2 := put1_eq bs 0 1 (by decide) (by decide) (by omega)
    rw [show (((0 : Nat) : Int) == 0) = true from rfl, cond_true, Tr.run_bind]
    refine (bindT hp2).trans ?_
    rfl
  · have hp2 := put1_eq bs 1 1 (by decide) (by decide) (by omega)
    have hb2 : (bs ++ bitsOf 1 1).length = bs.length + 1 := by rw [List.length_append, bitsOf_len]
    have hu := Una1_eq (wst - 1) (bs ++ bitsOf 1 1) (by omega) (by omega)
    rw [hb2] at hu
    have hw1 : w64 ((wst : Int) - 1) = ((wst - 1 : Nat) : Int) := by rw [w64_id (by omega)]; omega
    rw [show ((wst : Int) == 0) = false from beq_eq_false_iff_ne.2 (by omega), cond_false, Tr.run_bind]
    refine (bindT hp2).trans ?_
    dsimp only
    rw [Tr.run_bind, hw1]
    refine (bindT hu).trans ?_
    rw [Tr.run_ret]
    have e1 : bs.length + 1 + (wst - 1 + 1) = bs.length + (wst + 1) := by omega
    have e2 : bs ++ bitsOf 1 1 ++ unaB (wst - 1) = bs ++ wsBits wst := by
      unfold wsBits unaB
      rw [show (wst == 0) = false from beq_eq_false_iff_ne.2 hz, cond_false, List.append_assoc]
    rw [e1, e2]
theorem typ_eq (s : Sb) (k3 : s.k ≤ 3) (ho : s.o ≤ 32) (fix : s.k = 2 → s.o ≤ 4) : (0 ≤ (s.k : Int) ∧ (s.k : Int) < Int.ofNat (((((List.replicate (4 : Nat) (0 : Int)).set (0 : Nat) (0 : Int)).set (1 : Nat) (1 : Int)).set (2 : Nat) (w64 ((8 : Int) + (s.o : Int)))).set (3 : Nat) (w64 ((31 : Int) + (s.o : Int)))).length)
    ∧ Go.IntKind.u64.wrap ((((((List.replicate (4 : Nat) (0 : Int)).set (0 : Nat) (0 : Int)).set (1 : Nat) (1 : Int)).set (2 : Nat) (w64 ((8 : Int) + (s.o : Int)))).set (3 : Nat) (w64 ((31 : Int) + (s.o : Int)))).getD (s.k : Int).toNat (0 : Int)) = (s.typ : Int) ∧ s.typ < 128 := by
  obtain ⟨k, o, wst, pr, sf, m, ro, cs, ps, es⟩ := s
  simp only at *
  refine ⟨by simp only [List.length_set, List.length_replicate, Int.ofNat_eq_natCast]; omega, ?_⟩
  have w1 : w64 ((8 : Int) + (o : Int)) = ((8 + o : Nat) : Int) := by rw [w64_id (by omega)]; omega
  have w2 : w64 ((31 : Int) + (o : Int)) = ((31 + o : Nat) : Int) := by rw [w64_id (by omega)]; omega
  rw [w1, w2, Int.toNat_natCast]
  unfold Sb.typ
  have : k = 0 ∨ k = 1 ∨ k = 2 ∨ k = 3 := by omega
  rcases this with rfl | rfl | rfl | rfl
  · exact ⟨rfl, (by decide : (0 : Nat) < 128)⟩
  · exact ⟨rfl, (by decide : (1 : Nat) < 128)⟩
  · refine ⟨?_, ?_⟩
    · show Go.IntKind.u64.wrap ((8 + o : Nat) : Int) = ((8 + o : Nat) : Int)
      exact u64_id (by omega)
    · show 8 + o < 128
      omega
  · refine ⟨?_, ?_⟩
    · show Go.IntKind.u64.wrap ((31 + o : Nat) : Int) = ((31 + o : Nat) : Int)
      exact u64_id (by omega)
    · show 31 + o < 128
      omega
theorem warm_eq (s : Sb) (n : Nat) : LQ.warm s.D (n : Int) = some ((s.warmN n : Nat) : Int) := by
  obtain ⟨k, o, wst, pr, sf, m, ro, cs, ps, es⟩ := s
  unfold LQ.warm LQ.warm.t Sb.warmN Sb.D
  dsimp only
  by_cases h0 : k = 0
  · rw [if_pos h0, Tr.run_br, show ((k : Int) == 0) = true from beq_iff_eq.2 (by omega), cond_true, Tr.run_ret]; rfl
  · rw [if_neg h0, Tr.run_br, show ((k : Int) == 0) = false from beq_eq_false_iff_ne.2 (by omega), cond_false, Tr.run_br]
    by_cases h1 : k = 1
    · rw [if_pos h1, show ((k : Int) == 1) = true from beq_iff_eq.2 (by omega), cond_true, Tr.run_ret]
    · rw [if_neg h1, show ((k : Int) == 1) = false from beq_eq_false_iff_ne.2 (by omega), cond_false, Tr.run_ret]
theorem sg_loop (f : Int × Int × StD × List UInt8 → Option (Int × Int × StD × List UInt8 ⊕ Int × StD × List UInt8)) (st : StD) (l : List Int) (V : Nat) (bs : List Bool)
    (hf : ∀ i, i < l.length → ∀ (B : List Bool), B.length ≤ bs.length + i * V → f ((i : Int), (B.length : Int), st, pk B) = some (.inl (((i + 1 : Nat) : Int), ((B.length + V : Nat) : Int), st, pk (B ++ bitsOf (two64 (l.getD i 0)) V))))
    (he : ∀ (B : List Bool), f ((l.length : Int), (B.length : Int), st, pk B) = some (.inr ((B.length : Int), st, pk B))) :
    loopO f ((0 : Int), (bs.length : Int), st, pk bs) = some (((bs ++ sgBits V l).length : Int), st, pk (bs ++ sgBits V l)) := by
  have h := loopO_steps (f := f) (fun i => ((i : Int), ((bs ++ sgBits V (l.take i)).length : Int), st, pk (bs ++ sgBits V (l.take i)))) (r := (((bs ++ sgBits V l).length : Int), st, pk (bs ++ sgBits V l))) l.length (fun i hi => by
    have hl : (bs ++ sgBits V (l.take i)).length = bs.length + i * V := by rw [List.length_append, sgBits_len, List.length_take, Nat.min_eq_left (by omega)]
    have hs := hf i hi (bs ++ sgBits V (l.take i)) (by omega)
    rw [hs]
    have e1 : sgBits V (l.take (i + 1)) = sgBits V (l.take i) ++ bitsOf (two64 (l.getD i 0)) V := by
      rw [List.take_succ_eq_append_getElem hi, getD_lt _ _ hi]
      unfold sgBits two64
      rw [List.flatMap_append]; simp
    have e2 : (bs ++ sgBits V (l.take i) ++ bitsOf (two64 (l.getD i 0)) V).length = (bs ++ sgBits V (l.take i)).length + V := by rw [List.length_append, bitsOf_len]
    rw [e1, ← List.append_assoc, e2]) (by
    rw [List.take_of_length_le (Nat.le_refl _)]
    exact he _)
  simp only [List.take_zero] at h
  rw [show sgBits V [] = [] from rfl, List.append_nil] at h
  exact h
theorem residuals_eq (s : Sb) (mm : List Int) (n : Nat) (hk : s.k = 2 ∨ s.k = 3) (fix : s.k = 2 → s.o ≤ 4) (lpc : s.k = 3 → 1 ≤ s.o ∧ s.o ≤ 32 ∧ s.sf ≤ 15 ∧ s.cs.length = s.o) (ho : s.o ≤ mm.length) (hl : mm.length ≤ 1048576) : LQ.residuals s.D mm = some (s.res mm, 0) := by
  obtain ⟨k, o, wst, pr, sf, m, ro, cs, ps, es⟩ := s
  simp only at *
  unfold LQ.residuals LQ.residuals.t Sb.res Sb.D
  dsimp only
  rcases hk with rfl | rfl
  · rw [Tr.run_br, show (((2 : Nat) : Int) == 2) = true from rfl, cond_true, Tr.run_bind]
    exact (bindT (Fixed_eq o mm (fix rfl) ho hl)).trans rfl
  · obtain ⟨l1, l2, l3, l4⟩ := lpc rfl
    rw [Tr.run_br, show (((3 : Nat) : Int) == 2) = false from rfl, cond_false, Tr.run_bind]
    refine (bindT (Lpc_eq cs mm sf (by omega) (by omega) (by omega) (by omega) hl)).trans ?_
    rw [l4]; rfl
theorem sb_of (s : Sb) (W : Nat) (l : List Int) (ck : CkOK s W l.length) (go : GoOK s W l) (ri : 2 ≤ s.k → RiOK s.m s.ro s.ps s.es l.length s.o (s.res (mids s.wst l))) : SbOK s W l :=
  ⟨ck.b1, ck.b2, ck.w1, ck.w2, ck.ws, go.dv, go.ft, ck.k3, ck.low, ck.flat, go.con, ck.fix, ck.lpc, ck.ob, ri, go.w31⟩
theorem encF_dec (s : Sb) (W : Nat) (l : List Int) (bs : List Bool) (ck : CkOK s W l.length) (go : GoOK s W l) (hC : LQ.Check s.D (l.length : Int) (W : Int) = some 0) (hG : LQ.goes s.D (W : Int) l = some (mids s.wst l, true)) (hb : bs.length + 3000000 + l.length * 16777250 ≤ 274877906000) :
    (SbOK s W l ∧ LQ.encF (s.D, (W : Int), l) (bs.length : Int) (pk bs) = some (0, ((bs.length + (s.bits W l).length : Nat) : Int), pk (bs ++ s.bits W l))) ∨ LQ.encF (s.D, (W : Int), l) (bs.length : Int) (pk bs) = some (60, (bs.length : Int), pk bs) := by
  have ckk := ck
  obtain ⟨b1, b2, w1, w2, ws, k3, low, flat, fix, lpc, ob, rc⟩ := ck
  have hmf := mids_fits W s.wst l ws go.ft
  have hml := mids_len s.wst l
  have ho32 : s.o ≤ 32 := by
    have : s.k < 2 ∨ s.k = 2 ∨ s.k = 3 := by omega
    rcases this with h | h | h
    · rw [(low h).1]; omega
    · have := fix h; omega
    · exact (lpc h).2.1
  obtain ⟨ht1, ht2, ht3⟩ := typ_eq s k3 ho32 fix
  have hwn : s.warmN l.length ≤ l.length := by
    unfold Sb.warmN
    split
    · exact b1
    · split
      · exact Nat.le_refl _
      · exact ob
  have hwarm := warm_eq s l.length
  generalize hmm : mids s.wst l = mm at *
  have hp1 := put1_eq bs s.typ 7 (by omega) (by decide) (by omega)
  have hB1 : (bs ++ bitsOf s.typ 7).length = bs.length + 7 := by rw [List.length_append, bitsOf_len]
  have hw0 := wst_part s.wst (bs ++ bitsOf s.typ 7) s.st (by omega) (by omega)
  rw [hB1] at hw0
  generalize hB2 : bs ++ bitsOf s.typ 7 ++ wsBits s.wst = B2 at hw0
  have hB2l : B2.length = bs.length + 7 + (s.wst + 1) := by rw [← hB2, List.length_append, hB1, wsBits_len]
  have hlt : List.take (((s.warmN l.length : Nat) : Int) - 0).toNat (List.drop 0 mm) = mm.take (s.warmN l.length) := by rw [Int.sub_zero, Int.toNat_natCast]; rfl
  generalize hwv : s.warmN l.length = wn at *
  have htl : (mm.take wn).length = wn := by rw [List.length_take]; omega
  have hWw : w64 ((W : Int) - (s.wst : Int)) = ((W - s.wst : Nat) : Int) := by rw [w64_id (by omega)]; omega
  have hV : wn * (W - s.wst) ≤ 65535 * 33 := Nat.mul_le_mul (by omega) (by omega)
  have hB3l : (B2 ++ sgBits (W - s.wst) (mm.take wn)).length ≤ bs.length + 41 + 65535 * 33 := by rw [List.length_append, sgBits_len, htl, hB2l]; omega
  generalize hB3 : B2 ++ sgBits (W - s.wst) (mm.take wn) = B3 at hB3l
  have hst : s.st = ((s.k : Int), (s.o : Int), (s.wst : Int), (s.pr : Int), (s.sf : Int), s.cs, (s.m : Int), (s.ro : Int), s.ps, s.es) := rfl
  have hfinal : ∀ B4 B5 : List Bool, B4 = B3 ++ s.lpcB → B5 = B4 ++ s.resB l.length mm → ((B5.length : Nat) : Int) = ((bs.length + (s.bits W l).length : Nat) : Int) ∧ B5 = bs ++ s.bits W l := fun B4 B5 e4 e5 => by
    have e : B5 = bs ++ s.bits W l := by
      rw [e5, e4, ← hB3, ← hB2]
      unfold Sb.bits
      rw [hmm, hwv]
      simp only [List.append_assoc]
    exact ⟨by rw [e, List.length_append], e⟩
  have hitem : ∀ i, i < (mm.take wn).length → fitsW (W - s.wst) ((mm.take wn).getD i 0) := fun i hi => hmf _ (by rw [getD_lt _ _ hi]; exact List.mem_of_mem_take (List.getElem_mem hi))
  by_cases hk2 : 2 ≤ s.k
  rotate_left
  ·
    left
    refine ⟨sb_of s W l ckk go (fun h => absurd h hk2), ?_⟩
    have hlp : s.lpcB = [] := by unfold Sb.lpcB; rw [if_neg (by omega)]
    have hrs : s.resB l.length mm = [] := by unfold Sb.resB; rw [if_pos (by omega)]
    obtain ⟨f1, f2⟩ := hfinal B3 B3 (by rw [hlp, List.append_nil]) (by rw [hrs, List.append_nil])
    unfold LQ.encF LQ.encF.t
    dsimp only
    rw [Tr.run_br, cond_false, Tr.run_bind]
    refine (bindT (a := (0 : Int)) hC).trans ?_
    rw [Tr.run_br, show ((0 : Int) != 0) = false from rfl, cond_false, Tr.run_bind]
    refine (bindT hG).trans ?_
    have d1 : decide (s.D.1 ≥ 2) = false := decide_eq_false (by show ¬ ((s.k : Int) ≥ 2); omega)
    rw [Bool.not_true, Tr.run_br, cond_false, Tr.run_br, d1, cond_false]
    refine (Tr.run_need _ ht1).trans ?_
    rw [Tr.run_bind]
    refine (bindT (a := ((0 : Int), ((bs.length + 7 : Nat) : Int), pk (bs ++ bitsOf s.typ 7))) (by
      exact (congrArg (fun x => LQ.put1 (x, 7) (bs.length : Int) (pk bs)) ht2).trans hp1)).trans ?_
    dsimp only
    rw [Tr.run_bind]
    refine (bindT (a := (((bs.length + 7 + (s.wst + 1) : Nat) : Int), s.st, pk B2)) hw0).trans ?_
    rw [← hB2l, Tr.run_bind]
    refine (bindT (a := ((wn : Nat) : Int)) hwarm).trans ?_
    rw [Tr.run_need _ (by simp only [Int.ofNat_eq_natCast]; omega), Tr.run_bind]
    have hlo := sg_loop (fun (d : Int × Int × StD × List UInt8) ↦ (LQ.encF.l2 (s.D, (W : Int), l) (mm, true) ((wn : Nat) : Int) d.fst d.snd.fst d.snd.snd.fst d.snd.snd.snd).run) s.st (mm.take wn) (W - s.wst) B2 (fun i hi B hB => by
      have hs := sig1_eq B ((mm.take wn).getD i 0) (W - s.wst) (by omega) (by omega) (hitem i hi) (by
        have : i * (W - s.wst) ≤ 65535 * 33 := Nat.mul_le_mul (by omega) (by omega)
        omega)
      unfold LQ.encF.l2
      dsimp only
      rw [hlt, Tr.run_br, decide_eq_true (by simp only [Int.ofNat_eq_natCast]; omega), cond_true, Tr.run_need _ (by simp only [Int.ofNat_eq_natCast]; omega), Int.toNat_natCast, Tr.run_bind]
      refine (bindT (a := ((0 : Int), ((B.length + (W - s.wst) : Nat) : Int), pk (B ++ bitsOf (two64 ((mm.take wn).getD i 0)) (W - s.wst)))) (by
        rw [← hs]
        show LQ.sig1 (_, w64 ((W : Int) - (s.wst : Int))) _ _ = _
        rw [hWw])).trans ?_
      rw [Tr.run_ret, w64_id (by omega)]
      rfl) (fun B => by
      unfold LQ.encF.l2
      dsimp only
      rw [hlt, Tr.run_br, decide_eq_false (by simp only [Int.ofNat_eq_natCast]; omega), cond_false, Tr.run_ret])
    rw [hB3] at hlo
    refine (bindT hlo).trans ?_
    rw [Tr.run_bind]
    refine (bindT (a := (((B3.length : Nat) : Int), s.st, pk B3)) (by
      have h3 : (s.st.1 == 3) = false := beq_eq_false_iff_ne.2 (by show ¬ (s.k : Int) = 3; omega)
      dsimp only
      rw [Tr.run_br, h3, cond_false, Tr.run_ret])).trans ?_
    rw [Tr.run_bind]
    refine (bindT (a := (((B3.length : Nat) : Int), pk B3)) (by
      have h3 : decide (s.st.1 ≥ 2) = false := decide_eq_false (by show ¬ (s.k : Int) ≥ 2; omega)
      dsimp only
      rw [Tr.run_br, h3, cond_false, Tr.run_ret])).trans ?_
    rw [Tr.run_ret]
    dsimp only
    rw [f1, f2]
  ·
    have hk23 : s.k = 2 ∨ s.k = 3 := by omega
    obtain ⟨hrc, hrk⟩ := rc hk2
    have hres := residuals_eq s mm l.length hk23 fix (fun h => ⟨(lpc h).1, (lpc h).2.1, (lpc h).2.2.2.2.1, (lpc h).2.2.2.2.2.1⟩) (by omega) (by omega)
    have hrl : (s.res mm).length = l.length - s.o := by
      unfold Sb.res
      split <;> rw [leftV_len, hml]
    have hrr : ∀ n ∈ s.res mm, inR n := by
      unfold Sb.res
      split <;> exact leftV_range _ _ _ _
    have hN : 2 ^ s.ro ≤ 2 ^ 15 := Nat.pow_le_pow_right (by decide) hrc.ro15
    have hrl2 : (s.res mm).length * 16777250 ≤ l.length * 16777250 := Nat.mul_le_mul_right _ (by omega)
    have d1 : decide (s.D.1 ≥ 2) = true := decide_eq_true (by show ((s.k : Int) ≥ 2); omega)
    have hd0 := rEnc1_dec s.m s.ro l.length s.o s.ps s.es (s.res mm) [] hrc hrk hrl hrr (by simp only [List.length_nil]; omega)
    rcases hd0 with ⟨ri, hd0⟩ | ⟨_, hd0⟩
    rotate_left
    · right
      unfold LQ.encF LQ.encF.t
      dsimp only
      rw [Tr.run_br, cond_false, Tr.run_bind]
      refine (bindT (a := (0 : Int)) hC).trans ?_
      rw [Tr.run_br, show ((0 : Int) != 0) = false from rfl, cond_false, Tr.run_bind]
      refine (bindT hG).trans ?_
      rw [Bool.not_true, Tr.run_br, cond_false, Tr.run_br, d1, cond_true, Tr.run_bind]
      refine (bindT (a := (s.res mm, (0 : Int))) hres).trans ?_
      dsimp only
      rw [Tr.run_bind]
      refine (bindT (a := (true, (bs.length : Int), pk bs, s.st)) (by
        rw [Tr.run_br, show ((0 : Int) != 0) = false from rfl, cond_false, Tr.run_bind]
        refine (bindT (a := ((0 : Int), ([] : List UInt8))) rfl).trans ?_
        rw [Tr.run_bind]
        refine (bindT hd0).trans ?_
        rfl)).trans ?_
      rfl
    left
    have okk := sb_of s W l ckk go (fun _ => by rw [hmm]; exact ri)
    refine ⟨okk, ?_⟩
    have hrs : s.resB l.length mm = riceB s.m s.ro s.ps s.es (l.length / 2 ^ s.ro) s.o (s.res mm) := by unfold Sb.resB; rw [if_neg (by omega)]
    have hlpl : s.lpcB.length ≤ 500 := by
      unfold Sb.lpcB
      split
      · rename_i h3
        obtain ⟨l1, l2, l3, l4, l5, l6, l7⟩ := lpc h3
        rw [List.length_append, List.length_append, bitsOf_len, bitsOf_len, sgBits_len, l6]
        have : s.o * s.pr ≤ 32 * 15 := Nat.mul_le_mul l2 l4
        omega
      · simp
    generalize hB4 : B3 ++ s.lpcB = B4
    have hB4l : B4.length ≤ bs.length + 541 + 65535 * 33 := by rw [← hB4, List.length_append]; omega
    have hd1 := rEnc1_dec s.m s.ro l.length s.o s.ps s.es (s.res mm) B4 hrc hrk hrl hrr (by omega)
    have hd2 : LQ.rEnc1 (((s.m : Int), (s.ro : Int), s.ps, s.es, ()), (l.length : Int), (s.o : Int), s.res mm) (B4.length : Int) (pk B4) = some (0, ((B4.length + (riceB s.m s.ro s.ps s.es (l.length / 2 ^ s.ro) s.o (s.res mm)).length : Nat) : Int), pk (B4 ++ riceB s.m s.ro s.ps s.es (l.length / 2 ^ s.ro) s.o (s.res mm))) := by
      rcases hd1 with ⟨_, h⟩ | ⟨h, _⟩
      · exact h
      · exact absurd ri h
    obtain ⟨f1, f2⟩ := hfinal B4 (B4 ++ riceB s.m s.ro s.ps s.es (l.length / 2 ^ s.ro) s.o (s.res mm)) hB4.symm (by rw [hrs])
    unfold LQ.encF LQ.encF.t
    dsimp only
    rw [Tr.run_br, cond_false, Tr.run_bind]
    refine (bindT (a := (0 : Int)) hC).trans ?_
    rw [Tr.run_br, show ((0 : Int) != 0) = false from rfl, cond_false, Tr.run_bind]
    refine (bindT hG).trans ?_
    rw [Bool.not_true, Tr.run_br, cond_false, Tr.run_br, d1, cond_true, Tr.run_bind]
    refine (bindT (a := (s.res mm, (0 : Int))) hres).trans ?_
    dsimp only
    rw [Tr.run_bind]
    refine (bindT (a := (false, (bs.length : Int), pk bs, s.st)) (by
      rw [Tr.run_br, show ((0 : Int) != 0) = false from rfl, cond_false, Tr.run_bind]
      refine (bindT (a := ((0 : Int), ([] : List UInt8))) rfl).trans ?_
      rw [Tr.run_bind]
      refine (bindT hd0).trans ?_
      rfl)).trans ?_
    dsimp only
    rw [Tr.run_br, cond_false]
    refine (Tr.run_need _ ht1).trans ?_
    rw [Tr.run_bind]
    refine (bindT (a := ((0 : Int), ((bs.length + 7 : Nat) : Int), pk (bs ++ bitsOf s.typ 7))) (by
      exact (congrArg (fun x => LQ.put1 (x, 7) (bs.length : Int) (pk bs)) ht2).trans hp1)).trans ?_
    dsimp only
    rw [Tr.run_bind]
    refine (bindT (a := (((bs.length + 7 + (s.wst + 1) : Nat) : Int), s.st, pk B2)) hw0).trans ?_
    rw [← hB2l, Tr.run_bind]
    refine (bindT (a := ((wn : Nat) : Int)) hwarm).trans ?_
    rw [Tr.run_need _ (by simp only [Int.ofNat_eq_natCast]; omega), Tr.run_bind]
    have hlo := sg_loop (fun (d : Int × Int × StD × List UInt8) ↦ (LQ.encF.l0 (s.D, (W : Int), l) (mm, true) ((wn : Nat) : Int) d.fst d.snd.fst d.snd.snd.fst d.snd.snd.snd).run) s.st (mm.take wn) (W - s.wst) B2 (fun i hi B hB => by
      have hs := sig1_eq B ((mm.take wn).getD i 0) (W - s.wst) (by omega) (by omega) (hitem i hi) (by
        have : i * (W - s.wst) ≤ 65535 * 33 := Nat.mul_le_mul (by omega) (by omega)
        omega)
      unfold LQ.encF.l0
      dsimp only
      rw [hlt, Tr.run_br, decide_eq_true (by simp only [Int.ofNat_eq_natCast]; omega), cond_true, Tr.run_need _ (by simp only [Int.ofNat_eq_natCast]; omega), Int.toNat_natCast, Tr.run_bind]
      refine (bindT (a := ((0 : Int), ((B.length + (W - s.wst) : Nat) : Int), pk (B ++ bitsOf (two64 ((mm.take wn).getD i 0)) (W - s.wst)))) (by
        rw [← hs]
        show LQ.sig1 (_, w64 ((W : Int) - (s.wst : Int))) _ _ = _
        rw [hWw])).trans ?_
      rw [Tr.run_ret, w64_id (by omega)]
      rfl) (fun B => by
      unfold LQ.encF.l0
      dsimp only
      rw [hlt, Tr.run_br, decide_eq_false (by simp only [Int.ofNat_eq_natCast]; omega), cond_false, Tr.run_ret])
    rw [hB3] at hlo
    refine (bindT hlo).trans ?_
    rw [Tr.run_bind]
    refine (bindT (a := (((B4.length : Nat) : Int), s.st, pk B4)) (by
      by_cases e3 : s.k = 3
      · obtain ⟨l1, l2, l3, l4, l5, l6, l7⟩ := lpc e3
        have h3 : (s.st.1 == 3) = true := beq_iff_eq.2 (by show (s.k : Int) = 3; omega)
        have hlp : s.lpcB = bitsOf (s.pr - 1) 4 ++ (bitsOf s.sf 5 ++ sgBits s.pr s.cs) := by unfold Sb.lpcB; rw [if_pos e3]
        have hq1 := put1_eq B3 (s.pr - 1) 4 (by omega) (by decide) (by omega)
        have hq1l : (B3 ++ bitsOf (s.pr - 1) 4).length = B3.length + 4 := by rw [List.length_append, bitsOf_len]
        have hq2 := put1_eq (B3 ++ bitsOf (s.pr - 1) 4) s.sf 5 (by omega) (by decide) (by omega)
        rw [hq1l] at hq2
        have w1' : Go.IntKind.u64.wrap (w64 ((s.pr : Int) - 1)) = ((s.pr - 1 : Nat) : Int) := by rw [w64_id (by omega), u64_id (by omega)]; omega
        have w2' : Go.IntKind.u64.wrap (s.sf : Int) = (s.sf : Int) := u64_id (by omega)
        dsimp only
        rw [Tr.run_br, h3, cond_true, Tr.run_bind]
        refine (bindT (a := ((0 : Int), ((B3.length + 4 : Nat) : Int), pk (B3 ++ bitsOf (s.pr - 1) 4))) (by
          rw [← hq1]
          show LQ.put1 (Go.IntKind.u64.wrap (w64 ((s.pr : Int) - 1)), 4) _ _ = _
          rw [w1']; rfl)).trans ?_
        dsimp only
        rw [Tr.run_bind]
        refine (bindT (a := ((0 : Int), ((B3.length + 4 + 5 : Nat) : Int), pk (B3 ++ bitsOf (s.pr - 1) 4 ++ bitsOf s.sf 5))) (by
          rw [← hq2]
          show LQ.put1 (Go.IntKind.u64.wrap (s.sf : Int), 5) _ _ = _
          rw [w2']; rfl)).trans ?_
        dsimp only
        rw [Tr.run_bind]
        generalize hB35 : B3 ++ bitsOf (s.pr - 1) 4 ++ bitsOf s.sf 5 = B35
        have hB35l : B35.length = B3.length + 4 + 5 := by rw [← hB35, List.length_append, hq1l, bitsOf_len]
        have hlc := sg_loop (fun (d : Int × Int × StD × List UInt8) ↦ (LQ.encF.l1 (((B3.length : Nat) : Int), s.st, pk B3) d.fst d.snd.fst d.snd.snd.fst d.snd.snd.snd).run) s.st s.cs s.pr B35 (fun i hi B hB => by
          have hs := sig1_eq B (s.cs.getD i 0) s.pr l3 (by omega) (l7 _ (by rw [getD_lt _ _ hi]; exact List.getElem_mem hi)) (by
            have : i * s.pr ≤ 32 * 15 := Nat.mul_le_mul (by omega) l4
            omega)
          unfold LQ.encF.l1
          dsimp only
          have e5 : s.st.2.2.2.2.2.1 = s.cs := rfl
          rw [e5, Tr.run_br, decide_eq_true (by simp only [Int.ofNat_eq_natCast]; omega), cond_true, Tr.run_need _ (by simp only [Int.ofNat_eq_natCast]; omega), Int.toNat_natCast, Tr.run_bind]
          refine (bindT (a := ((0 : Int), ((B.length + s.pr : Nat) : Int), pk (B ++ bitsOf (two64 (s.cs.getD i 0)) s.pr))) hs).trans ?_
          rw [Tr.run_ret, w64_id (by omega)]
          rfl) (fun B => by
          unfold LQ.encF.l1
          dsimp only
          have e5 : s.st.2.2.2.2.2.1 = s.cs := rfl
          rw [e5, Tr.run_br, decide_eq_false (by simp only [Int.ofNat_eq_natCast]; omega), cond_false, Tr.run_ret]
          rfl)
        have hB4' : B35 ++ sgBits s.pr s.cs = B4 := by rw [← hB4, hlp, ← hB35, List.append_assoc, List.append_assoc]
        rw [hB4'] at hlc
        rw [← hB35l]
        refine (bindT hlc).trans ?_
        rfl
      · have h3 : (s.st.1 == 3) = false := beq_eq_false_iff_ne.2 (by show ¬ (s.k : Int) = 3; omega)
        have hlp : s.lpcB = [] := by unfold Sb.lpcB; rw [if_neg e3]
        have : B4 = B3 := by rw [← hB4, hlp, List.append_nil]
        dsimp only
        rw [Tr.run_br, h3, cond_false, Tr.run_ret, this])).trans ?_
    rw [Tr.run_bind]
    refine (bindT (a := (((B4.length + (riceB s.m s.ro s.ps s.es (l.length / 2 ^ s.ro) s.o (s.res mm)).length : Nat) : Int), pk (B4 ++ riceB s.m s.ro s.ps s.es (l.length / 2 ^ s.ro) s.o (s.res mm)))) (by
      have h3 : decide (s.st.1 ≥ 2) = true := decide_eq_true (by show (s.k : Int) ≥ 2; omega)
      dsimp only
      rw [Tr.run_br, h3, cond_true, Tr.run_bind]
      refine (bindT hd2).trans ?_
      rfl)).trans ?_
    rw [Tr.run_ret]
    dsimp only
    rw [List.length_append] at f1
    rw [f1, f2]
end Go.Proofs.Ytfblaicifdgfiaa.Dg
end

section
set_option linter.unusedVariables false
set_option linter.unusedSimpArgs false
set_option maxRecDepth 10000
namespace Go.Proofs.Ytfblaicifdgfiaa.Dg
open Go.LM
theorem riceB_len (m ro block o : Nat) (ps es l : List Int) (ri : RiOK m ro ps es block o l) : (riceB m ro ps es (block / 2 ^ ro) o l).length ≤ 6 + 2 ^ ro * 10 + l.length * 16777250 := by
  obtain ⟨hm, ro15, b1, b2, o32, dv, ge, lp, le, ll, pt⟩ := ri
  have hll : l.length = 2 ^ ro * (block / 2 ^ ro) - o := by rw [Nat.mul_comm, dv, ll]
  have hNn : 2 ^ ro * (block / 2 ^ ro) = block := by rw [Nat.mul_comm]; exact dv
  have hGl : ∀ i, i < 2 ^ ro → (ptG m ps es l o (block / 2 ^ ro) i).length ≤ 10 + (cutN l o (block / 2 ^ ro) i).length * 16777250 := fun i hi => by
    obtain ⟨hw, k0, k1, e0, e1, ke, it⟩ := pt i hi
    have h32 : 2 ^ (4 + m) ≤ 32 := by rcases hm with rfl | rfl <;> decide
    have hf := flat_len (itB (ps.getD i 0) (es.getD i 0)) 16777250 (cutN l o (block / 2 ^ ro) i) (fun x hx => itB_len _ _ _ ⟨k0, by omega⟩ e1 (it x hx))
    unfold ptG ptB
    rw [List.length_append]
    have : (if es.getD i 0 < 0 then bitsOf (ps.getD i 0).toNat (4 + m) else bitsOf (2 ^ (4 + m) - 1) (4 + m) ++ bitsOf (es.getD i 0).toNat 5).length ≤ 10 := by
      split
      · rw [bitsOf_len]; omega
      · rw [List.length_append, bitsOf_len, bitsOf_len]; omega
    omega
  have h := parts_len m (block / 2 ^ ro) o ps es l (2 ^ ro) (by omega) hll hGl (2 ^ ro) (Nat.le_refl _)
  rw [hNn, ← ll] at h
  unfold riceB
  rw [List.length_append, List.length_append, bitsOf_len, bitsOf_len]
  omega
theorem bits_len (s : Sb) (W : Nat) (l : List Int) (ok : SbOK s W l) : (s.bits W l).length ≤ 3000000 + l.length * 16777250 := by
  obtain ⟨b1, b2, w1, w2, ws, dv, ft, k3, low, flat, con, fix, lpc, ob, ri, w31⟩ := ok
  have hml := mids_len s.wst l
  have hwn : ((mids s.wst l).take (s.warmN l.length)).length * (W - s.wst) ≤ 65535 * 33 := Nat.mul_le_mul (by rw [List.length_take]; omega) (by omega)
  have hlp : s.lpcB.length ≤ 500 := by
    unfold Sb.lpcB
    split
    · rename_i h3
      obtain ⟨l1, l2, l3, l4, l5, l6, l7⟩ := lpc h3
      rw [List.length_append, List.length_append, bitsOf_len, bitsOf_len, sgBits_len, l6]
      have : s.o * s.pr ≤ 32 * 15 := Nat.mul_le_mul l2 l4
      omega
    · simp
  have hrs : (s.resB l.length (mids s.wst l)).length ≤ 6 + 32768 * 10 + l.length * 16777250 := by
    unfold Sb.resB
    split
    · simp
    · rename_i h2
      have h := ri (by omega)
      have hr := riceB_len s.m s.ro l.length s.o s.ps s.es _ h
      have hN : 2 ^ s.ro ≤ 2 ^ 15 := Nat.pow_le_pow_right (by decide) h.ro15
      have : (s.res (mids s.wst l)).length * 16777250 ≤ l.length * 16777250 := Nat.mul_le_mul_right _ (by rw [h.ll]; omega)
      omega
  unfold Sb.bits
  rw [List.length_append, List.length_append, List.length_append, List.length_append, bitsOf_len, wsBits_len, sgBits_len]
  omega
theorem encF_bad1 (d : SubD) (W : Int) (l : List Int) (a : Int) (row : List UInt8) (h : LQ.Check d (Int.ofNat l.length) W = some 60) : LQ.encF (d, W, l) a row = some (60, a, row) := by
  unfold LQ.encF LQ.encF.t
  dsimp only
  rw [Tr.run_br, cond_false, Tr.run_bind]
  refine (bindT (a := (60 : Int)) h).trans ?_
  rfl
theorem encF_bad2 (d : SubD) (W : Int) (l x : List Int) (a : Int) (row : List UInt8) (h : LQ.Check d (Int.ofNat l.length) W = some 0) (h2 : LQ.goes d W l = some (x, false)) : LQ.encF (d, W, l) a row = some (60, a, row) := by
  unfold LQ.encF LQ.encF.t
  dsimp only
  rw [Tr.run_br, cond_false, Tr.run_bind]
  refine (bindT (a := (0 : Int)) h).trans ?_
  rw [Tr.run_br, show ((0 : Int) != 0) = false from rfl, cond_false, Tr.run_bind]
  refine (bindT h2).trans ?_
  rfl
theorem short_eq (l : List Int) : LQ.short l = some (decide (Int.ofNat l.length ≤ 300)) := rfl
theorem SBack_bad (d : SubD) (W : Int) (l : List Int) (hs : LQ.short l = some true) (h : LQ.encF (d, W, l) 0 [] = some (60, 0, [])) : LQ.SBack d W l = some true := by
  unfold LQ.SBack LQ.SBack.t
  rw [Tr.run_bind, hs, someBind, Bool.not_true, Tr.run_br, cond_false, Tr.run_bind]
  refine (bindT (a := ((0 : Int), ([] : List UInt8))) rfl).trans ?_
  rw [Tr.run_br, cond_false, Tr.run_bind]
  refine (bindT (a := ((60 : Int), (0 : Int), ([] : List UInt8))) h).trans ?_
  rw [Tr.run_br, show ((60 : Int) != 0) = true from rfl, cond_true, Tr.run_bind]
  refine (bindT (a := true) ?_).trans rfl
  rw [Tr.run_bind, len1_eq, someBind]
  dsimp only
  rw [Tr.run_need _ ⟨rfl, rfl, trivial⟩, Tr.run_br, show ((0 : Int) == 0) = true from rfl, cond_true, Tr.run_bind, awk_true]
  rfl
theorem SBack_law (k o w p sf m ro W : Int) (cs ps es l : List Int) (hm : inR m) (hcs : ∀ c ∈ cs, inR c) (hcl : cs.length ≤ 1048576) (hpl : ps.length ≤ 1048576) (hel : es.length ≤ 1048576) (hlr : ∀ n ∈ l, inR n) :
    LQ.SBack (k, o, w, p, sf, cs, (m, ro, ps, es, ()), ()) W l = some true := by
  by_cases hshort : l.length ≤ 300
  rotate_left
  · unfold LQ.SBack LQ.SBack.t
    rw [Tr.run_bind, short_eq, someBind, decide_eq_false (by simp only [Int.ofNat_eq_natCast]; omega), Tr.run_br, Bool.not_false, cond_true, Tr.run_bind, awk_true]
    rfl
  have hs : LQ.short l = some true := by rw [short_eq, decide_eq_true (by simp only [Int.ofNat_eq_natCast]; omega)]
  rcases Check_dec k o w p sf m ro cs ps es l.length W (by omega) hm hcs hcl with ⟨s, W', rfl, hD, ck, hC⟩ | hC
  rotate_left
  · exact SBack_bad _ W l hs (encF_bad1 _ W l 0 [] hC)
  rw [← hD] at hC ⊢
  rcases goes_dec s W' l ⟨ck.w1, ck.w2⟩ ck.ws (by omega) hlr with ⟨go, hG⟩ | ⟨x, hG⟩
  rotate_left
  · exact SBack_bad _ _ l hs (encF_bad2 _ _ l x 0 [] hC hG)
  have hmul : l.length * 16777250 ≤ 300 * 16777250 := Nat.mul_le_mul_right _ hshort
  rcases encF_dec s W' l [] ck go hC hG (by simp only [List.length_nil]; omega) with ⟨ok, hE⟩ | hE
  rotate_left
  · exact SBack_bad _ _ l hs hE
  rw [List.nil_append, List.length_nil, Nat.zero_add] at hE
  have hBat : Bat (s.bits W' l) 0 (s.bits W' l) := ⟨[], [], by simp, rfl⟩
  have hbits : (s.bits W' l).length ≤ 1099511627776 := by
    have := bits_len s W' l ok
    omega
  have hdec := DecodeF_eq (s.bits W' l) W' s l ok hbits hBat
  have hps : s.ps = ps ∧ s.es = es ∧ s.cs = cs := by
    have h1 := congrArg (fun d : SubD => d.2.2.2.2.2.2.1.2.2.1) hD
    have h2 := congrArg (fun d : SubD => d.2.2.2.2.2.2.1.2.2.2.1) hD
    have h3 := congrArg (fun d : SubD => d.2.2.2.2.2.1) hD
    exact ⟨h1, h2, h3⟩
  have hsame := r10Same_self s.D (by show s.cs.length ≤ _; rw [hps.2.2]; exact hcl) (by show s.ps.length ≤ _; rw [hps.1]; exact hpl) (by show s.es.length ≤ _; rw [hps.2.1]; exact hel)
  have hints := rInts_self l (by omega)
  unfold LQ.SBack LQ.SBack.t
  rw [Tr.run_bind, hs, someBind, Bool.not_true, Tr.run_br, cond_false, Tr.run_bind]
  refine (bindT (a := ((0 : Int), ([] : List UInt8))) rfl).trans ?_
  rw [Tr.run_br, cond_false, Tr.run_bind]
  refine (bindT hE).trans ?_
  rw [Tr.run_br, show ((0 : Int) != 0) = false from rfl, cond_false, Tr.run_bind]
  have hWB : ∀ (n : Int) (row : List UInt8), LQ.wBytes n row = some (row, n, row) := fun n row => rfl
  dsimp only
  rw [hWB, someBind, Tr.run_bind]
  refine (bindT (a := ((0 : Int), pk (s.bits W' l))) rfl).trans ?_
  rw [Tr.run_br, cond_false, Tr.run_bind]
  refine (bindT hdec).trans ?_
  rw [Tr.run_bind]
  refine (bindT (a := true) ?_).trans rfl
  dsimp only
  rw [Tr.run_br, show ((0 : Int) == 0) = true from rfl, cond_true, Tr.run_bind, hints, someBind, Tr.run_br, cond_true, Tr.run_bind]
  refine (bindT (a := true) hsame).trans ?_
  rw [Tr.run_br, cond_true, Tr.run_bind]
  have hAt : ∀ (n : Int) (row : List UInt8), LQ.AtR n row = some (n, n, row) := fun n row => by
    unfold LQ.AtR LQ.AtR.t
    rw [Tr.run_br, cond_false, Tr.run_bind]
    refine (bindT (a := (n, n, row)) rfl).trans ?_
    dsimp only
    rw [Tr.run_need _ ⟨rfl, rfl, trivial⟩]; rfl
  rw [hAt, someBind]
  dsimp only
  rw [Tr.run_need _ ⟨rfl, rfl, trivial⟩, Tr.run_bind, len1_eq, someBind]
  dsimp only
  rw [Tr.run_need _ ⟨rfl, rfl, trivial⟩, Tr.run_br, beq_self_eq_true, cond_true, Tr.run_bind, awk_true]
  rfl
end Go.Proofs.Ytfblaicifdgfiaa.Dg
end

