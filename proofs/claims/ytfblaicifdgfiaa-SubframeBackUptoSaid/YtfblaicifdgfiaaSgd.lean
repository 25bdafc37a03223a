/- Sgd: SgP SgQ SgR. -/
import Derived.Test.YtfblaicifdgfiaaSgc
section
set_option linter.unusedVariables false
set_option linter.unusedSimpArgs false
set_option maxRecDepth 10000
namespace Go.Proofs.Ytfblaicifdgfiaa.Dg
open Go.LM
theorem itB_len (k e n : Int) (hk : 0 ≤ k ∧ k ≤ 30) (he : e ≤ 31) (h : ItOK k e n) : (itB k e n).length ≤ 16777250 := by
  unfold itB
  split
  · rename_i hn
    have := h.2.1 hn
    unfold riB
    rw [List.length_append, unaB_len, bitsOf_len]
    generalize zz n / 2 ^ k.toNat = q at this
    omega
  · split
    · rw [bitsOf_len]; omega
    · simp
theorem flat_len {α : Type} (g : α → List Bool) (c : Nat) : ∀ (l : List α), (∀ x ∈ l, (g x).length ≤ c) → (l.flatMap g).length ≤ l.length * c
  | [], _ => by simp
  | x :: l, h => by
    have h1 := flat_len g c l (fun y hy => h y (List.mem_cons_of_mem _ hy))
    have h2 := h x (by simp)
    rw [List.flatMap_cons, List.length_append, List.length_cons, Nat.add_mul, Nat.one_mul]; omega
theorem parts_len (m n o : Nat) (ps es l : List Int) (N : Nat) (hm : m ≤ 1) (hll : l.length = N * n - o) (h : ∀ i, i < N → (ptG m ps es l o n i).length ≤ 10 + (cutN l o n i).length * 16777250) : ∀ i, i ≤ N → ((List.range i).flatMap (ptG m ps es l o n)).length ≤ i * 10 + (i * n - o) * 16777250 := by
  intro i
  induction i with
  | zero => intro _; simp
  | succ i ih =>
    intro hi
    have h1 := ih (by omega)
    have h2 := h i (by omega)
    rw [cutN_len l o n i N (by omega) hll] at h2
    rw [List.range_succ, List.flatMap_append, List.length_append]
    simp only [List.flatMap_cons, List.flatMap_nil, List.append_nil]
    have hin : i * n + n = (i + 1) * n := by rw [Nat.add_mul, Nat.one_mul]
    generalize hA : i * n = A at *
    generalize hB : (i + 1) * n = B at *
    have : (A - o) * 16777250 + (B - o - (A - o)) * 16777250 = (B - o) * 16777250 := by rw [← Nat.add_mul]; congr 1; omega
    omega
theorem rEnc1_dec (m ro block o : Nat) (ps es l : List Int) (bs : List Bool) (rc : RcOK m ro ps es block o) (hck : LQ.rCheck ((m : Int), (ro : Int), ps, es, ()) (block : Int) (o : Int) = some 0) (hl : l.length = block - o) (hr : ∀ n ∈ l, inR n) (hbig : bs.length + 6 + 2 ^ ro * 10 + l.length * 16777250 ≤ 274877906944) :
    (RiOK m ro ps es block o l ∧ LQ.rEnc1 (((m : Int), (ro : Int), ps, es, ()), (block : Int), (o : Int), l) (bs.length : Int) (pk bs) = some (0, ((bs.length + (riceB m ro ps es (block / 2 ^ ro) o l).length : Nat) : Int), pk (bs ++ riceB m ro ps es (block / 2 ^ ro) o l)))
    ∨ (¬ RiOK m ro ps es block o l ∧ LQ.rEnc1 (((m : Int), (ro : Int), ps, es, ()), (block : Int), (o : Int), l) (bs.length : Int) (pk bs) = some (60, (bs.length : Int), pk bs)) := by
  obtain ⟨hm, ro15, b1, b2, o32, dv, ge, lp, le, kk⟩ := rc
  have hob : o ≤ block := Nat.le_trans ge (Nat.div_le_self _ _)
  have hro' : 2 ^ ro ≤ 2 ^ 15 := Nat.pow_le_pow_right (by decide) ro15
  have hcut : ∀ i : Nat, i < 2 ^ ro → LQ.rcut l ((m : Int), (ro : Int), ps, es, ()) (block : Int) (o : Int) (i : Int) = some (cutN l o (block / 2 ^ ro) i) := fun i hi => rcut_eq l m ro ps es block o i ro15 b2 ge dv hl hi
  have hll : l.length = 2 ^ ro * (block / 2 ^ ro) - o := by rw [Nat.mul_comm, dv, hl]
  generalize hn : block / 2 ^ ro = n at *
  generalize hN : 2 ^ ro = N at *
  have hcl : ∀ i, i < N → (cutN l o n i).length ≤ l.length := fun i hi => by
    unfold cutN
    rw [List.length_take, List.length_drop]; omega
  have hcm : ∀ i, ∀ x ∈ cutN l o n i, x ∈ l := fun i x hx => List.mem_of_mem_drop (List.mem_of_mem_take hx)
  have hk30 : ∀ i, i < N → 0 ≤ ps.getD i 0 ∧ ps.getD i 0 ≤ 30 := fun i hi => by
    have := kk i hi
    have h32 : 2 ^ (4 + m) ≤ 32 := by rcases hm with rfl | rfl <;> decide
    omega
  have key := loopO_ex2 (f := fun (d : Int × Int × List UInt8 × Int × Int × List Int × List Int) ↦ (LQ.rEnc1.l0 (((m : Int), (ro : Int), ps, es, ()), (block : Int), (o : Int), l) d.fst d.snd.fst d.snd.snd.fst d.snd.snd.snd.fst d.snd.snd.snd.snd.fst d.snd.snd.snd.snd.snd.fst d.snd.snd.snd.snd.snd.snd).run)
    (fun i => ∀ x ∈ cutN l o n i, ItOK (ps.getD i 0) (es.getD i 0) x) (.inl ((60 : Int), (bs.length : Int), pk bs)) (.inr ((bs.length : Int), pk bs, (m : Int), (ro : Int), ps, es)) N (fun i => ((i : Int), (bs.length : Int), pk bs, (m : Int), (ro : Int), ps, es)) (fun i hi => by
      have hmay := rmay_dec (cutN l o n i) (ps.getD i 0) (es.getD i 0) (hk30 i hi) ⟨(kk i hi).2.2.1, (kk i hi).2.2.2.1⟩ (by have := hcl i hi; omega) (fun x hx => hr x (hcm i x hx))
      unfold LQ.rEnc1.l0
      dsimp only
      rw [Tr.run_br, decide_eq_true (by simp only [Int.ofNat_eq_natCast]; omega), cond_true, Tr.run_need _ (by simp only [Int.ofNat_eq_natCast]; omega), Tr.run_bind, hcut i hi, someBind, Tr.run_need _ (by simp only [Int.ofNat_eq_natCast]; omega), Tr.run_bind, Int.toNat_natCast, w64_id (x := (i : Int) + 1) (by omega)]
      rcases hmay with ⟨h1, h2⟩ | ⟨h1, h2⟩
      · exact .inl ⟨h1, by rw [h2]; rfl⟩
      · exact .inr ⟨h1, by rw [h2]; rfl⟩) (by
      unfold LQ.rEnc1.l0
      dsimp only
      rw [Tr.run_br, decide_eq_false (by simp only [Int.ofNat_eq_natCast]; omega), cond_false, Tr.run_ret])
  have pre : ∀ r, loopO (fun (d : Int × Int × List UInt8 × Int × Int × List Int × List Int) ↦ (LQ.rEnc1.l0 (((m : Int), (ro : Int), ps, es, ()), (block : Int), (o : Int), l) d.fst d.snd.fst d.snd.snd.fst d.snd.snd.snd.fst d.snd.snd.snd.snd.fst d.snd.snd.snd.snd.snd.fst d.snd.snd.snd.snd.snd.snd).run) ((0 : Int), (bs.length : Int), pk bs, (m : Int), (ro : Int), ps, es) = some r → ∃ k1 k2, LQ.rEnc1 (((m : Int), (ro : Int), ps, es, ()), (block : Int), (o : Int), l) (bs.length : Int) (pk bs) = (Tr.cs (Int × Int × List UInt8) (Int × List UInt8 × Int × Int × List Int × List Int) r ((0 : Int), (0 : Int), []) ((0 : Int), [], (0 : Int), (0 : Int), [], []) k1 k2).run
      ∧ (∀ e a b, (k1 (e, a, b)).run = some (e, a, b))
      ∧ k2 = (fun (r5 : Int × List UInt8 × Int × Int × List Int × List Int) ↦ Tr.bind (Int × Int × List UInt8) (LQ.put1 (Go.IntKind.u64.wrap r5.snd.snd.fst, (2 : Int)) r5.fst r5.snd.fst) ((0 : Int), (0 : Int), []) fun (r6 : Int × Int × List UInt8) ↦ Tr.bind (Int × Int × List UInt8) (LQ.put1 (Go.IntKind.u64.wrap r5.snd.snd.snd.fst, (4 : Int)) r6.snd.fst r6.snd.snd) ((0 : Int), (0 : Int), []) fun (r7 : Int × Int × List UInt8) ↦ Tr.bind (Int × List UInt8) (loopO (fun (d : Int × Int × (Int × Int × List Int × List Int) × List UInt8) ↦ (LQ.rEnc1.l1 (((m : Int), (ro : Int), ps, es, ()), (block : Int), (o : Int), l) r5 d.fst d.snd.fst d.snd.snd.fst d.snd.snd.snd).run) ((0 : Int), r7.snd.fst, (r5.snd.snd.fst, r5.snd.snd.snd.fst, r5.snd.snd.snd.snd.fst, r5.snd.snd.snd.snd.snd), r7.snd.snd)) ((0 : Int), []) fun (r18 : Int × List UInt8) ↦ Tr.ret ((0 : Int), r18.fst, r18.snd)) := fun r hr0 => by
    refine ⟨fun (r4 : Int × Int × List UInt8) ↦ Tr.ret (r4.fst, r4.snd.fst, r4.snd.snd), _, ?_, ?_, rfl⟩
    · unfold LQ.rEnc1 LQ.rEnc1.t
      dsimp only
      rw [Tr.run_br, cond_false, Tr.run_bind]
      refine (bindT hck).trans ?_
      have hw : w64 ((block : Int) - (o : Int)) = ((block - o : Nat) : Int) := by rw [w64_id (by omega)]; omega
      rw [Tr.run_br, show ((0 : Int) != 0) = false from rfl, cond_false, hw, hl, Tr.run_br, show (Int.ofNat (block - o) != ((block - o : Nat) : Int)) = false from bne_self_eq_false _, cond_false, Tr.run_bind]
      exact bindT hr0
    · intro e a b; rfl
  rcases key with ⟨k1, k2⟩ | ⟨k1, k2⟩
  rotate_left
  · right
    refine ⟨fun ri => k2 fun i hi => ?_, ?_⟩
    · have := ri.pt i (by rw [hN]; exact hi)
      rw [hN, hn] at this
      exact this.it
    obtain ⟨q1, q2, h1, h2, _⟩ := pre _ k1
    rw [h1, Tr.run_csl, h2]
  left
  have pt : ∀ i, i < N → PtOK (4 + m) (ps.getD i 0) (es.getD i 0) (cutN l o n i) := fun i hi => by
    have a := kk i hi
    exact ⟨by rcases hm with rfl | rfl <;> simp, a.1, a.2.1, a.2.2.1, a.2.2.2.1, a.2.2.2.2, k2 i hi⟩
  refine ⟨⟨hm, ro15, b1, b2, o32, by rw [hN, hn]; exact dv, by rw [hN, hn]; exact ge, by rw [hN]; exact lp, by rw [hN]; exact le, hl, fun i hi => by rw [hN] at hi ⊢; rw [hn]; exact pt i hi⟩, ?_⟩
  obtain ⟨q1, q2, h1, _, h3⟩ := pre _ k1
  have hGl : ∀ i, i < N → (ptG m ps es l o n i).length ≤ 10 + (cutN l o n i).length * 16777250 := fun i hi => by
    have a := kk i hi
    have hf := flat_len (itB (ps.getD i 0) (es.getD i 0)) 16777250 (cutN l o n i) (fun x hx => itB_len _ _ _ (hk30 i hi) a.2.2.2.1 (k2 i hi x hx))
    unfold ptG ptB
    rw [List.length_append]
    have : (if es.getD i 0 < 0 then bitsOf (ps.getD i 0).toNat (4 + m) else bitsOf (2 ^ (4 + m) - 1) (4 + m) ++ bitsOf (es.getD i 0).toNat 5).length ≤ 10 := by
      split
      · rw [bitsOf_len]; omega
      · rw [List.length_append, bitsOf_len, bitsOf_len]; omega
    omega
  have hPl := parts_len m n o ps es l N (by omega) hll hGl
  have hp1 := put1_eq bs m 2 (by rcases hm with rfl | rfl <;> decide) (by decide) (by omega)
  have hb1 : (bs ++ bitsOf m 2).length = bs.length + 2 := by rw [List.length_append, bitsOf_len]
  have hp2 := put1_eq (bs ++ bitsOf m 2) ro 4 (by omega) (by decide) (by omega)
  rw [hb1] at hp2
  rw [h1, Tr.run_csr, h3]
  dsimp only
  have wm : Go.IntKind.u64.wrap (m : Int) = (m : Int) := u64_id (by omega)
  have wr : Go.IntKind.u64.wrap (ro : Int) = (ro : Int) := u64_id (by omega)
  rw [Tr.run_bind, wm, wr]
  refine (bindT hp1).trans ?_
  dsimp only
  rw [Tr.run_bind]
  refine (bindT hp2).trans ?_
  dsimp only
  rw [Tr.run_bind]
  generalize hBB : bs ++ bitsOf m 2 ++ bitsOf ro 4 = BB
  have hBl : BB.length = bs.length + 6 := by rw [← hBB, List.length_append, hb1, bitsOf_len]
  have hlo := loopO_steps (f := fun (d : Int × Int × (Int × Int × List Int × List Int) × List UInt8) ↦ (LQ.rEnc1.l1 (((m : Int), (ro : Int), ps, es, ()), (block : Int), (o : Int), l) ((bs.length : Int), pk bs, (m : Int), (ro : Int), ps, es) d.fst d.snd.fst d.snd.snd.fst d.snd.snd.snd).run)
    (fun i => ((i : Int), ((BB.length + ((List.range i).flatMap (ptG m ps es l o n)).length : Nat) : Int), ((m : Int), (ro : Int), ps, es), pk (BB ++ (List.range i).flatMap (ptG m ps es l o n)))) (r := (((BB.length + ((List.range N).flatMap (ptG m ps es l o n)).length : Nat) : Int), pk (BB ++ (List.range N).flatMap (ptG m ps es l o n)))) N (fun i hi => by
      have a := kk i hi
      have hlen := hPl i (by omega)
      have hlenS := hPl (i + 1) hi
      have hcl' := hcl i hi
      have hiN : (i + 1) * n - o ≤ l.length := by
        rw [hll]
        have : (i + 1) * n ≤ N * n := Nat.mul_le_mul_right n hi
        omega
      have hiK : ((i + 1) * n - o) * 16777250 ≤ l.length * 16777250 := Nat.mul_le_mul_right _ hiN
      have hiK2 : (i * n - o) * 16777250 ≤ l.length * 16777250 := Nat.mul_le_mul_right _ (by
        have : i * n ≤ (i + 1) * n := Nat.mul_le_mul_right n (by omega)
        omega)
      have hw5 : w64 ((4 : Int) + (m : Int)) = ((4 + m : Nat) : Int) := by rw [w64_id (by omega)]; omega
      generalize hX : BB ++ (List.range i).flatMap (ptG m ps es l o n) = X
      have hXl : X.length = BB.length + ((List.range i).flatMap (ptG m ps es l o n)).length := by rw [← hX, List.length_append]
      have hXb : X.length + 10 + (cutN l o n i).length * 16777250 ≤ 274877906944 := by
        have e1 : ((List.range (i + 1)).flatMap (ptG m ps es l o n)).length ≤ (i + 1) * 10 + ((i + 1) * n - o) * 16777250 := hlenS
        rw [cutN_len l o n i N hi hll]
        have hin : i * n + n = (i + 1) * n := by rw [Nat.add_mul, Nat.one_mul]
        generalize i * n = A at *
        generalize (i + 1) * n = B at *
        have : (A - o) * 16777250 + (B - o - (A - o)) * 16777250 = (B - o) * 16777250 := by rw [← Nat.add_mul]; congr 1; omega
        omega
      rw [← hXl]
      generalize hH : (if es.getD i 0 < 0 then bitsOf (ps.getD i 0).toNat (4 + m) else bitsOf (2 ^ (4 + m) - 1) (4 + m) ++ bitsOf (es.getD i 0).toNat 5) = H
      have hHl : H.length ≤ 10 := by
        rw [← hH]
        split
        · rw [bitsOf_len]; omega
        · rw [List.length_append, bitsOf_len, bitsOf_len]; omega
      have hG : ptG m ps es l o n i = H ++ (cutN l o n i).flatMap (itB (ps.getD i 0) (es.getD i 0)) := by unfold ptG ptB; rw [hH]
      have hpw : 2 ^ (4 + m) ≤ 32 := by rcases hm with rfl | rfl <;> decide
      have hpw2 : 16 ≤ 2 ^ (4 + m) := by rcases hm with rfl | rfl <;> decide
      have hinner := loopO_steps (f := fun (d : Int × Int × (Int × Int × List Int × List Int) × List UInt8) ↦ (LQ.rEnc1.l2 ((bs.length : Int), pk bs, (m : Int), (ro : Int), ps, es) (i : Int) ((m : Int), (ro : Int), ps, es) (cutN l o n i) d.fst d.snd.fst d.snd.snd.fst d.snd.snd.snd).run)
        (fun j => ((j : Int), ((X.length + H.length + (((cutN l o n i).take j).flatMap (itB (ps.getD i 0) (es.getD i 0))).length : Nat) : Int), ((m : Int), (ro : Int), ps, es), pk (X ++ H ++ ((cutN l o n i).take j).flatMap (itB (ps.getD i 0) (es.getD i 0)))))
        (r := (((X.length + H.length + ((cutN l o n i).flatMap (itB (ps.getD i 0) (es.getD i 0))).length : Nat) : Int), ((m : Int), (ro : Int), ps, es), pk (X ++ H ++ (cutN l o n i).flatMap (itB (ps.getD i 0) (es.getD i 0))))) (cutN l o n i).length (fun j hj => by
          have hx : ItOK (ps.getD i 0) (es.getD i 0) ((cutN l o n i).getD j 0) := k2 i hi _ (by rw [getD_lt _ _ hj]; exact List.getElem_mem hj)
          have hfl := flat_len (itB (ps.getD i 0) (es.getD i 0)) 16777250 ((cutN l o n i).take j) (fun x hx => itB_len _ _ _ (hk30 i hi) a.2.2.2.1 (k2 i hi x (List.mem_of_mem_take hx)))
          have hfl2 : ((cutN l o n i).take j).length * 16777250 ≤ (cutN l o n i).length * 16777250 := Nat.mul_le_mul_right _ (by rw [List.length_take]; omega)
          have hsp : ((cutN l o n i).take (j + 1)).flatMap (itB (ps.getD i 0) (es.getD i 0)) = ((cutN l o n i).take j).flatMap (itB (ps.getD i 0) (es.getD i 0)) ++ itB (ps.getD i 0) (es.getD i 0) ((cutN l o n i).getD j 0) := by
            rw [List.take_succ_eq_append_getElem hj, List.flatMap_append, getD_lt _ _ hj]; simp
          have hl2 : (((cutN l o n i).take (j + 1)).flatMap (itB (ps.getD i 0) (es.getD i 0))).length = (((cutN l o n i).take j).flatMap (itB (ps.getD i 0) (es.getD i 0))).length + (itB (ps.getD i 0) (es.getD i 0) ((cutN l o n i).getD j 0)).length := by rw [hsp, List.length_append]
          rw [hl2, hsp]
          generalize hY : X ++ H ++ ((cutN l o n i).take j).flatMap (itB (ps.getD i 0) (es.getD i 0)) = Y
          have hYl : Y.length = X.length + H.length + (((cutN l o n i).take j).flatMap (itB (ps.getD i 0) (es.getD i 0))).length := by rw [← hY, List.length_append, List.length_append]
          rw [← List.append_assoc, hY, ← Nat.add_assoc (X.length + H.length), ← hYl]
          unfold LQ.rEnc1.l2
          dsimp only
          rw [Tr.run_br, decide_eq_true (p := (j : Int) < Int.ofNat (cutN l o n i).length) (by simp only [Int.ofNat_eq_natCast]; omega), cond_true, Tr.run_need _ (by simp only [Int.ofNat_eq_natCast]; omega), Tr.run_bind, Int.toNat_natCast, Int.toNat_natCast, w64_id (x := (j : Int) + 1) (by omega)]
          refine (bindT (a := (((Y.length + (itB (ps.getD i 0) (es.getD i 0) ((cutN l o n i).getD j 0)).length : Nat) : Int), ((m : Int), (ro : Int), ps, es), pk (Y ++ itB (ps.getD i 0) (es.getD i 0) ((cutN l o n i).getD j 0)))) ?_).trans rfl
          have hke := hk30 i hi
          have hee := a.2.2
          generalize ps.getD i 0 = k at *
          generalize es.getD i 0 = e at *
          generalize (cutN l o n i).getD j 0 = x at *
          by_cases hneg : e < 0
          · obtain ⟨k', rfl⟩ : ∃ k' : Nat, k = (k' : Int) := ⟨k.toNat, by omega⟩
            have eit : itB (k' : Int) e x = riB x k' := by unfold itB; rw [if_pos hneg, Int.toNat_natCast]
            have hz := hx.2.1 hneg
            rw [Int.toNat_natCast] at hz
            have hri := Ric1_eq x k' Y hx.1 (by omega) hz (by omega)
            rw [decide_eq_true hneg, Tr.run_br, cond_true, Tr.run_bind, hri, eit]; rfl
          · by_cases hpos : 0 < e
            · obtain ⟨e', rfl⟩ : ∃ e' : Nat, e = (e' : Int) := ⟨e.toNat, by omega⟩
              have eit : itB k (e' : Int) x = bitsOf (two64 x) e' := by unfold itB; rw [if_neg hneg, if_pos hpos, Int.toNat_natCast]
              have hf := hx.2.2.1 hpos
              rw [Int.toNat_natCast] at hf
              have hs := sig1_eq Y x e' (by omega) (by omega) hf (by omega)
              rw [decide_eq_false (p := ((e' : Nat) : Int) < 0) hneg, Tr.run_br, cond_false, Tr.run_bind, decide_eq_true (p := ((e' : Nat) : Int) > 0) hpos, Tr.run_br, cond_true, Tr.run_bind, hs, eit, bitsOf_len]; rfl
            · have eit : itB k e x = [] := by unfold itB; rw [if_neg hneg, if_neg hpos]
              rw [decide_eq_false (p := e < 0) hneg, Tr.run_br, cond_false, Tr.run_bind, decide_eq_false (p := e > 0) hpos, Tr.run_br, cond_false, eit, List.append_nil]; rfl) (by
          unfold LQ.rEnc1.l2
          dsimp only
          rw [Tr.run_br, decide_eq_false (by simp only [Int.ofNat_eq_natCast]; omega), cond_false, Tr.run_ret, List.take_of_length_le (Nat.le_refl _)])
      simp only [List.take_zero, List.flatMap_nil, List.length_nil, Nat.add_zero, List.append_nil] at hinner
      have hnext : (List.range (i + 1)).flatMap (ptG m ps es l o n) = (List.range i).flatMap (ptG m ps es l o n) ++ ptG m ps es l o n i := by
        rw [List.range_succ, List.flatMap_append]; simp
      have hfinB : BB ++ (List.range (i + 1)).flatMap (ptG m ps es l o n) = X ++ H ++ (cutN l o n i).flatMap (itB (ps.getD i 0) (es.getD i 0)) := by
        rw [hnext, ← List.append_assoc, hX, hG, List.append_assoc]
      have hfinL : BB.length + ((List.range (i + 1)).flatMap (ptG m ps es l o n)).length = X.length + H.length + ((cutN l o n i).flatMap (itB (ps.getD i 0) (es.getD i 0))).length := by
        have := congrArg List.length hfinB
        simp only [List.length_append] at this
        omega
      rw [hfinB, hfinL]
      unfold LQ.rEnc1.l1
      dsimp only
      rw [Tr.run_br, decide_eq_true (p := (i : Int) < Int.ofNat ps.length) (by simp only [Int.ofNat_eq_natCast]; omega), cond_true, Tr.run_need _ (by simp only [Int.ofNat_eq_natCast]; omega), Tr.run_need _ (by simp only [Int.ofNat_eq_natCast]; omega), Tr.run_bind, hw5, Int.toNat_natCast]
      refine (bindT (a := (((X.length + H.length : Nat) : Int), ((m : Int), (ro : Int), ps, es), pk (X ++ H))) (by
        have hke := hk30 i hi
        generalize ps.getD i 0 = k at *
        generalize es.getD i 0 = e at *
        by_cases hneg : e < 0
        · obtain ⟨k', rfl⟩ : ∃ k' : Nat, k = (k' : Int) := ⟨k.toNat, by omega⟩
          have eH : H = bitsOf k' (4 + m) := by rw [← hH, if_pos hneg, Int.toNat_natCast]
          have hp := put1_eq X k' (4 + m) (by omega) (by omega) (by omega)
          rw [decide_eq_true hneg, Tr.run_br, cond_true, Tr.run_bind, u64_id (x := (k' : Int)) (by omega), hp, eH, bitsOf_len]; rfl
        · obtain ⟨e', rfl⟩ : ∃ e' : Nat, e = (e' : Int) := ⟨e.toNat, by omega⟩
          have eH : H = bitsOf (2 ^ (4 + m) - 1) (4 + m) ++ bitsOf e' 5 := by rw [← hH, if_neg hneg, Int.toNat_natCast]
          have hp := put1_eq X (2 ^ (4 + m) - 1) (4 + m) (by omega) (by omega) (by omega)
          have hX2 : (X ++ bitsOf (2 ^ (4 + m) - 1) (4 + m)).length = X.length + (4 + m) := by rw [List.length_append, bitsOf_len]
          have hq := put1_eq (X ++ bitsOf (2 ^ (4 + m) - 1) (4 + m)) e' 5 (by omega) (by decide) (by omega)
          rw [hX2] at hq
          have wE : Go.IntKind.u64.wrap (Go.IntKind.u64.wrap ((1 : Int) * p2 ((4 + m : Nat) : Int) 64) - 1) = ((2 ^ (4 + m) - 1 : Nat) : Int) := by
            rw [p2_nat _ _ (by omega)]
            generalize 2 ^ (4 + m) = q at hpw hpw2
            rw [u64_id (x := (1 : Int) * (q : Int)) (by omega), u64_id (by omega)]; omega
          rw [decide_eq_false hneg, Tr.run_br, cond_false, Tr.run_need _ (by omega), Tr.run_bind, wE]
          refine (bindT hp).trans ?_
          dsimp only
          rw [Tr.run_bind, u64_id (x := (e' : Int)) (by omega)]
          refine (bindT hq).trans ?_
          rw [eH, List.length_append, bitsOf_len, bitsOf_len, ← List.append_assoc, Nat.add_assoc X.length (4 + m) 5]; rfl)).trans ?_
      dsimp only
      rw [Tr.run_bind]
      refine (bindT (hcut i hi)).trans ?_
      rw [Tr.run_bind]
      refine (bindT hinner).trans ?_
      rw [Tr.run_ret, w64_id (x := (i : Int) + 1) (by omega)]
      rfl) (by
      unfold LQ.rEnc1.l1
      dsimp only
      rw [Tr.run_br, decide_eq_false (by simp only [Int.ofNat_eq_natCast]; omega), cond_false, Tr.run_ret])
  simp only [List.range_zero, List.flatMap_nil, List.length_nil, Nat.add_zero, List.append_nil] at hlo
  have hBB2 : bs.length + 2 + 4 = BB.length := by rw [hBl]
  rw [hBB2]
  refine (bindT hlo).trans ?_
  unfold riceB
  rw [Tr.run_ret, ← hN, List.length_append, List.length_append, bitsOf_len, bitsOf_len, hBl, ← List.append_assoc, ← List.append_assoc, hBB]
  have : bs.length + 6 + ((List.range (2 ^ ro)).flatMap (ptG m ps es l o n)).length = bs.length + (2 + (4 + ((List.range (2 ^ ro)).flatMap (ptG m ps es l o n)).length)) := by omega
  rw [this]
end Go.Proofs.Ytfblaicifdgfiaa.Dg
end

section
set_option linter.unusedVariables false
set_option linter.unusedSimpArgs false
set_option maxRecDepth 10000
namespace Go.Proofs.Ytfblaicifdgfiaa.Dg
open Go.LM
theorem bifBind {A B : Type} (c : Bool) (x y : Option A) (f : A → Option B) : (bif c then x else y).bind f = bif c then x.bind f else y.bind f := by cases c <;> rfl
theorem bifSame {A : Type} (c : Bool) (x : A) : (bif c then x else x) = x := by cases c <;> rfl
theorem ConF_dec (s : List Int) (k o w sf m ro : Int) (p : Nat) (cs ps es : List Int) (h1 : 1 ≤ p) (h2 : p ≤ 63) (hf : ∀ n ∈ s, inR n) (hl : s.length ≤ 1048576) :
    ((∀ n ∈ s, fitsW p n) ∧ LQ.ConF s k o w (p : Int) sf cs m ro ps es = some (false, k, o, w, (p : Int), sf, cs, m, ro, ps, es)) ∨ LQ.ConF s k o w (p : Int) sf cs m ro ps es = some (true, k, o, w, (p : Int), sf, cs, m, ro, ps, es) := by
  have key : ∃ r, loopO (fun (d : Int × Int × Int × Int × Int × Int × List Int × Int × Int × List Int × List Int) ↦ (LQ.IdxF.l0 s d.fst d.snd.fst d.snd.snd.fst d.snd.snd.snd.fst d.snd.snd.snd.snd.fst d.snd.snd.snd.snd.snd.fst d.snd.snd.snd.snd.snd.snd.fst d.snd.snd.snd.snd.snd.snd.snd.fst d.snd.snd.snd.snd.snd.snd.snd.snd.fst d.snd.snd.snd.snd.snd.snd.snd.snd.snd.fst d.snd.snd.snd.snd.snd.snd.snd.snd.snd.snd).run) ((0 : Int), k, o, w, (p : Int), sf, cs, m, ro, ps, es) = some r
      ∧ ((r = .inr (k, o, w, (p : Int), sf, cs, m, ro, ps, es) ∧ ∀ n ∈ s, fitsW p n) ∨ ∃ i : Nat, r = .inl ((i : Int), k, o, w, (p : Int), sf, cs, m, ro, ps, es)) := by
    have hstep : ∀ i, i < s.length → (fitsW p (s.getD i 0) ∧ (LQ.IdxF.l0 s (i : Int) k o w (p : Int) sf cs m ro ps es).run = some (.inl (((i + 1 : Nat) : Int), k, o, w, (p : Int), sf, cs, m, ro, ps, es))) ∨ (LQ.IdxF.l0 s (i : Int) k o w (p : Int) sf cs m ro ps es).run = some (.inr (.inl ((i : Int), k, o, w, (p : Int), sf, cs, m, ro, ps, es))) := fun i hi => by
      have hd := sfits_dec (s.getD i 0) p h1 h2 (hf _ (by rw [getD_lt _ _ hi]; exact List.getElem_mem hi))
      unfold LQ.IdxF.l0 LQ.chk1 LQ.chk1.t
      rw [Tr.run_br, decide_eq_true (by simp only [Int.ofNat_eq_natCast]; omega), cond_true, Tr.run_need _ (by simp only [Int.ofNat_eq_natCast]; omega), Tr.run_bind, Int.toNat_natCast, Tr.run_bind, w64_id (x := (i : Int) + 1) (by omega)]
      rcases hd with ⟨a, b⟩ | b
      · exact .inl ⟨a, by rw [b]; rfl⟩
      · exact .inr (by rw [b]; rfl)
    have hend : (LQ.IdxF.l0 s (s.length : Int) k o w (p : Int) sf cs m ro ps es).run = some (.inr (.inr (k, o, w, (p : Int), sf, cs, m, ro, ps, es))) := by
      unfold LQ.IdxF.l0
      rw [Tr.run_br, decide_eq_false (by simp only [Int.ofNat_eq_natCast]; omega), cond_false, Tr.run_ret]
    have go : ∀ j i, i + j = s.length → (∀ x, x < i → fitsW p (s.getD x 0)) → ∃ r, loopO (fun (d : Int × Int × Int × Int × Int × Int × List Int × Int × Int × List Int × List Int) ↦ (LQ.IdxF.l0 s d.fst d.snd.fst d.snd.snd.fst d.snd.snd.snd.fst d.snd.snd.snd.snd.fst d.snd.snd.snd.snd.snd.fst d.snd.snd.snd.snd.snd.snd.fst d.snd.snd.snd.snd.snd.snd.snd.fst d.snd.snd.snd.snd.snd.snd.snd.snd.fst d.snd.snd.snd.snd.snd.snd.snd.snd.snd.fst d.snd.snd.snd.snd.snd.snd.snd.snd.snd.snd).run) ((i : Int), k, o, w, (p : Int), sf, cs, m, ro, ps, es) = some r
        ∧ ((r = .inr (k, o, w, (p : Int), sf, cs, m, ro, ps, es) ∧ ∀ n ∈ s, fitsW p n) ∨ ∃ i : Nat, r = .inl ((i : Int), k, o, w, (p : Int), sf, cs, m, ro, ps, es)) := by
      intro j
      induction j with
      | zero =>
        intro i hi hx
        have : i = s.length := by omega
        subst this
        refine ⟨_, loopO_done hend, .inl ⟨rfl, fun n hn => ?_⟩⟩
        obtain ⟨x, hx', rfl⟩ := List.getElem_of_mem hn
        have := hx x hx'
        rw [getD_lt _ _ hx'] at this
        exact this
      | succ j ih =>
        intro i hi hx
        rcases hstep i (by omega) with ⟨a, b⟩ | b
        · obtain ⟨r, h1, h2⟩ := ih (i + 1) (by omega) (fun x hx' => by
            by_cases e : x = i
            · rw [e]; exact a
            · exact hx x (by omega))
          exact ⟨r, (loopO_next (f := fun (d : Int × Int × Int × Int × Int × Int × List Int × Int × Int × List Int × List Int) ↦ (LQ.IdxF.l0 s d.fst d.snd.fst d.snd.snd.fst d.snd.snd.snd.fst d.snd.snd.snd.snd.fst d.snd.snd.snd.snd.snd.fst d.snd.snd.snd.snd.snd.snd.fst d.snd.snd.snd.snd.snd.snd.snd.fst d.snd.snd.snd.snd.snd.snd.snd.snd.fst d.snd.snd.snd.snd.snd.snd.snd.snd.snd.fst d.snd.snd.snd.snd.snd.snd.snd.snd.snd.snd).run) b).trans h1, h2⟩
        · exact ⟨_, loopO_done b, .inr ⟨i, rfl⟩⟩
    exact go s.length 0 (by omega) (fun x hx => by omega)
  obtain ⟨r, h1, h2⟩ := key
  have hC : LQ.ConF s k o w (p : Int) sf cs m ro ps es = (Tr.cs (Int × Int × Int × Int × Int × Int × List Int × Int × Int × List Int × List Int) (Int × Int × Int × Int × Int × List Int × Int × Int × List Int × List Int) r ((0 : Int), (0 : Int), (0 : Int), (0 : Int), (0 : Int), (0 : Int), [], (0 : Int), (0 : Int), [], []) ((0 : Int), (0 : Int), (0 : Int), (0 : Int), (0 : Int), [], (0 : Int), (0 : Int), [], []) (fun (r2 : Int × Int × Int × Int × Int × Int × List Int × Int × Int × List Int × List Int) ↦ Tr.ret (r2.fst, r2.snd.fst, r2.snd.snd.fst, r2.snd.snd.snd.fst, r2.snd.snd.snd.snd.fst, r2.snd.snd.snd.snd.snd.fst, r2.snd.snd.snd.snd.snd.snd.fst, r2.snd.snd.snd.snd.snd.snd.snd.fst, r2.snd.snd.snd.snd.snd.snd.snd.snd.fst, r2.snd.snd.snd.snd.snd.snd.snd.snd.snd.fst, r2.snd.snd.snd.snd.snd.snd.snd.snd.snd.snd)) fun (r3 : Int × Int × Int × Int × Int × List Int × Int × Int × List Int × List Int) ↦ Tr.ret ((-1 : Int), r3.fst, r3.snd.fst, r3.snd.snd.fst, r3.snd.snd.snd.fst, r3.snd.snd.snd.snd.fst, r3.snd.snd.snd.snd.snd.fst, r3.snd.snd.snd.snd.snd.snd.fst, r3.snd.snd.snd.snd.snd.snd.snd.fst, r3.snd.snd.snd.snd.snd.snd.snd.snd.fst, r3.snd.snd.snd.snd.snd.snd.snd.snd.snd)).run.bind (fun r0 => some (decide (r0.fst ≥ (0 : Int)), r0.snd.fst, r0.snd.snd.fst, r0.snd.snd.snd.fst, r0.snd.snd.snd.snd.fst, r0.snd.snd.snd.snd.snd.fst, r0.snd.snd.snd.snd.snd.snd.fst, r0.snd.snd.snd.snd.snd.snd.snd.fst, r0.snd.snd.snd.snd.snd.snd.snd.snd.fst, r0.snd.snd.snd.snd.snd.snd.snd.snd.snd.fst, r0.snd.snd.snd.snd.snd.snd.snd.snd.snd.snd)) := by
    unfold LQ.ConF LQ.ConF.t LQ.IdxF LQ.IdxF.t
    rw [Tr.run_bind, Tr.run_bind]
    exact congrArg (fun x => Option.bind x _) (bindT h1)
  rcases h2 with ⟨rfl, h3⟩ | ⟨i, rfl⟩
  · left
    refine ⟨h3, ?_⟩
    rw [hC, Tr.run_csr]; rfl
  · right
    rw [hC, Tr.run_csl, Tr.run_ret, someBind]
    rw [decide_eq_true (by show ((i : Int)) ≥ 0; omega)]
structure CkOK (s : Sb) (W b : Nat) : Prop where
  b1 : 1 ≤ b
  b2 : b ≤ 65535
  w1 : 1 ≤ W
  w2 : W ≤ 33
  ws : s.wst < W
  k3 : s.k ≤ 3
  low : s.k < 2 → s.o = 0 ∧ s.m = 0 ∧ s.ro = 0 ∧ s.ps = [] ∧ s.es = []
  flat : s.k ≤ 2 → s.pr = 0 ∧ s.sf = 0 ∧ s.cs = []
  fix : s.k = 2 → s.o ≤ 4
  lpc : s.k = 3 → 1 ≤ s.o ∧ s.o ≤ 32 ∧ 1 ≤ s.pr ∧ s.pr ≤ 15 ∧ s.sf ≤ 15 ∧ s.cs.length = s.o ∧ ∀ c ∈ s.cs, fitsW s.pr c
  ob : s.o ≤ b
  rc : 2 ≤ s.k → RcOK s.m s.ro s.ps s.es b s.o ∧ LQ.rCheck ((s.m : Int), (s.ro : Int), s.ps, s.es, ()) (b : Int) (s.o : Int) = some 0
theorem Check_bad (k o w p sf m ro : Int) (cs ps es : List Int) (b : Nat) (W : Int) (hb : b ≤ 65535) (h0 : ¬ (1 ≤ b ∧ 1 ≤ W ∧ W ≤ 33 ∧ 0 ≤ w ∧ w < W)) : LQ.Check (k, o, w, p, sf, cs, (m, ro, ps, es, ()), ()) (b : Int) W = some 60 := by
  unfold LQ.Check LQ.Check.t
  dsimp only
  rw [Tr.run_bind]
  refine (bindT (a := (true, k, o, w, p, sf, cs, m, ro, ps, es)) ?_).trans rfl
  simp only [Tr.run_br, Tr.run_ret, cond_eq_ite, decide_eq_true_eq]
  repeat' split
  all_goals first | rfl | (rw [decide_eq_true (by omega)]) | (exfalso; omega)
theorem Check_lpc0 (o p sf m ro : Int) (cs ps es : List Int) (b W w : Nat) (hb : 1 ≤ b ∧ b ≤ 65535) (hW : 1 ≤ W ∧ W ≤ 33) (hw : w < W) (h1 : ¬ (1 ≤ o ∧ o ≤ 32 ∧ 1 ≤ p ∧ p ≤ 15 ∧ 0 ≤ sf ∧ sf ≤ 15 ∧ (cs.length : Int) = o)) : LQ.Check (3, o, (w : Int), p, sf, cs, (m, ro, ps, es, ()), ()) (b : Int) (W : Int) = some 60 := by
  have d1 : decide ((b : Int) < 1) = false := decide_eq_false (by omega)
  have d2 : decide ((b : Int) > 65535) = false := decide_eq_false (by omega)
  have d3 : decide ((W : Int) < 1) = false := decide_eq_false (by omega)
  have d4 : decide ((W : Int) > 33) = false := decide_eq_false (by omega)
  have d5 : decide ((w : Int) < 0) = false := decide_eq_false (by omega)
  have d6 : decide ((w : Int) ≥ (W : Int)) = false := decide_eq_false (by omega)
  unfold LQ.Check LQ.Check.t
  simp only [Tr.run_bind, Tr.run_br, Tr.run_ret, Tr.run_csl, Tr.run_csr, bifBind, someBind, cond_true, cond_false, Int.reduceBEq, Int.reduceLE, Int.reduceGE, decide_true, decide_false, bifSame, d1, d2, d3, d4, d5, d6, Bool.not_false, Bool.not_true]
  by_cases c1 : o ≥ 1
  rotate_left
  · rw [decide_eq_false c1]; rfl
  rw [decide_eq_true c1, cond_true]
  by_cases c2 : o ≤ 32
  rotate_left
  · rw [decide_eq_false c2]; rfl
  rw [decide_eq_true c2, cond_true]
  by_cases c3 : p ≥ 1
  rotate_left
  · rw [decide_eq_false c3]; rfl
  rw [decide_eq_true c3, cond_true]
  by_cases c4 : p ≤ 15
  rotate_left
  · rw [decide_eq_false c4]; rfl
  rw [decide_eq_true c4, cond_true]
  by_cases c5 : sf ≥ 0
  rotate_left
  · rw [decide_eq_false c5]; rfl
  rw [decide_eq_true c5, cond_true]
  by_cases c6 : sf ≤ 15
  rotate_left
  · rw [decide_eq_false c6]; rfl
  rw [decide_eq_true c6, cond_true]
  rw [show (Int.ofNat cs.length == o) = false from beq_eq_false_iff_ne.2 fun e => h1 ⟨c1, c2, c3, c4, c5, c6, e⟩]
  rfl
theorem Check_lpc1 (m ro : Int) (o p sf : Nat) (cs ps es : List Int) (b W w : Nat) (hb : 1 ≤ b ∧ b ≤ 65535) (hW : 1 ≤ W ∧ W ≤ 33) (hw : w < W) (ho : 1 ≤ o ∧ o ≤ 32) (hp : 1 ≤ p ∧ p ≤ 15) (hs : sf ≤ 15) (hl : cs.length = o) (cv : Bool) (hC : LQ.ConF cs 3 (o : Int) (w : Int) (p : Int) (sf : Int) cs m ro ps es = some (cv, 3, (o : Int), (w : Int), (p : Int), (sf : Int), cs, m, ro, ps, es)) :
    LQ.Check (3, (o : Int), (w : Int), (p : Int), (sf : Int), cs, (m, ro, ps, es, ()), ()) (b : Int) (W : Int) = bif cv then some 60 else bif decide ((o : Int) > (b : Int)) then some 60 else (LQ.rCheck (m, ro, ps, es, ()) (b : Int) (o : Int)).bind fun e => bif e != 0 then some 60 else some 0 := by
  have d1 : decide ((b : Int) < 1) = false := decide_eq_false (by omega)
  have d2 : decide ((b : Int) > 65535) = false := decide_eq_false (by omega)
  have d3 : decide ((W : Int) < 1) = false := decide_eq_false (by omega)
  have d4 : decide ((W : Int) > 33) = false := decide_eq_false (by omega)
  have d5 : decide ((w : Int) < 0) = false := decide_eq_false (by omega)
  have d6 : decide ((w : Int) ≥ (W : Int)) = false := decide_eq_false (by omega)
  have e1 : decide ((o : Int) ≥ 1) = true := decide_eq_true (by omega)
  have e2 : decide ((o : Int) ≤ 32) = true := decide_eq_true (by omega)
  have e3 : decide ((p : Int) ≥ 1) = true := decide_eq_true (by omega)
  have e4 : decide ((p : Int) ≤ 15) = true := decide_eq_true (by omega)
  have e5 : decide ((sf : Int) ≥ 0) = true := decide_eq_true (by omega)
  have e6 : decide ((sf : Int) ≤ 15) = true := decide_eq_true (by omega)
  have e7 : (Int.ofNat cs.length == (o : Int)) = true := beq_iff_eq.2 (by simp only [Int.ofNat_eq_natCast]; omega)
  unfold LQ.Check LQ.Check.t
  simp only [Tr.run_bind, Tr.run_br, Tr.run_ret, Tr.run_csl, Tr.run_csr, bifBind, someBind, cond_true, cond_false, Int.reduceBEq, Int.reduceLE, Int.reduceGE, decide_true, decide_false, bifSame, d1, d2, d3, d4, d5, d6, Bool.not_false, Bool.not_true, e1, e2, e3, e4, e5, e6, e7, hC]
  cases cv with
  | true => rfl
  | false =>
    simp only [Bool.not_false, Bool.not_true, cond_true, cond_false]
    cases LQ.rCheck (m, ro, ps, es, ()) (b : Int) (o : Int) <;> rfl
theorem Check_fix1 (m ro : Int) (o : Nat) (ps es : List Int) (b W w : Nat) (hb : 1 ≤ b ∧ b ≤ 65535) (hW : 1 ≤ W ∧ W ≤ 33) (hw : w < W) (ho : o ≤ 4) :
    LQ.Check (2, (o : Int), (w : Int), 0, 0, [], (m, ro, ps, es, ()), ()) (b : Int) (W : Int) = bif decide ((o : Int) > (b : Int)) then some 60 else (LQ.rCheck (m, ro, ps, es, ()) (b : Int) (o : Int)).bind fun e => bif e != 0 then some 60 else some 0 := by
  have d1 : decide ((b : Int) < 1) = false := decide_eq_false (by omega)
  have d2 : decide ((b : Int) > 65535) = false := decide_eq_false (by omega)
  have d3 : decide ((W : Int) < 1) = false := decide_eq_false (by omega)
  have d4 : decide ((W : Int) > 33) = false := decide_eq_false (by omega)
  have d5 : decide ((w : Int) < 0) = false := decide_eq_false (by omega)
  have d6 : decide ((w : Int) ≥ (W : Int)) = false := decide_eq_false (by omega)
  have e1 : decide ((o : Int) ≥ 0) = true := decide_eq_true (by omega)
  have e2 : decide ((o : Int) ≤ 4) = true := decide_eq_true (by omega)
  have e7 : (Int.ofNat ([] : List Int).length == 0) = true := rfl
  unfold LQ.Check LQ.Check.t
  simp only [Tr.run_bind, Tr.run_br, Tr.run_ret, Tr.run_csl, Tr.run_csr, bifBind, someBind, cond_true, cond_false, Int.reduceBEq, Int.reduceLE, Int.reduceGE, decide_true, decide_false, bifSame, d1, d2, d3, d4, d5, d6, Bool.not_false, Bool.not_true, e1, e2, e7]
  cases LQ.rCheck (m, ro, ps, es, ()) (b : Int) (o : Int) <;> rfl
theorem Check_fix0 (o p sf m ro : Int) (cs ps es : List Int) (b W w : Nat) (hb : 1 ≤ b ∧ b ≤ 65535) (hW : 1 ≤ W ∧ W ≤ 33) (hw : w < W) (h1 : ¬ (0 ≤ o ∧ o ≤ 4 ∧ p = 0 ∧ sf = 0 ∧ (cs.length : Int) = 0)) : LQ.Check (2, o, (w : Int), p, sf, cs, (m, ro, ps, es, ()), ()) (b : Int) (W : Int) = some 60 := by
  have d1 : decide ((b : Int) < 1) = false := decide_eq_false (by omega)
  have d2 : decide ((b : Int) > 65535) = false := decide_eq_false (by omega)
  have d3 : decide ((W : Int) < 1) = false := decide_eq_false (by omega)
  have d4 : decide ((W : Int) > 33) = false := decide_eq_false (by omega)
  have d5 : decide ((w : Int) < 0) = false := decide_eq_false (by omega)
  have d6 : decide ((w : Int) ≥ (W : Int)) = false := decide_eq_false (by omega)
  unfold LQ.Check LQ.Check.t
  simp only [Tr.run_bind, Tr.run_br, Tr.run_ret, Tr.run_csl, Tr.run_csr, bifBind, someBind, cond_true, cond_false, Int.reduceBEq, Int.reduceLE, Int.reduceGE, decide_true, decide_false, bifSame, d1, d2, d3, d4, d5, d6, Bool.not_false, Bool.not_true]
  by_cases c1 : o ≥ 0
  rotate_left
  · rw [decide_eq_false c1]; rfl
  rw [decide_eq_true c1, cond_true]
  by_cases c2 : o ≤ 4
  rotate_left
  · rw [decide_eq_false c2]; rfl
  rw [decide_eq_true c2, cond_true]
  by_cases c3 : p = 0
  rotate_left
  · rw [show (p == 0) = false from beq_eq_false_iff_ne.2 c3]; rfl
  rw [show (p == 0) = true from beq_iff_eq.2 c3, cond_true]
  by_cases c4 : sf = 0
  rotate_left
  · rw [show (sf == 0) = false from beq_eq_false_iff_ne.2 c4]; rfl
  rw [show (sf == 0) = true from beq_iff_eq.2 c4, cond_true]
  rw [show (Int.ofNat cs.length == 0) = false from beq_eq_false_iff_ne.2 fun e => h1 ⟨c1, c2, c3, c4, e⟩]
  rfl
theorem Check_con (o p sf m ro : Int) (cs ps es : List Int) (b W w : Nat) (hb : 1 ≤ b ∧ b ≤ 65535) (hW : 1 ≤ W ∧ W ≤ 33) (hw : w < W) (h1 : ¬ (o = 0 ∧ p = 0 ∧ sf = 0 ∧ (cs.length : Int) = 0 ∧ m = 0 ∧ ro = 0 ∧ (ps.length : Int) = 0 ∧ (es.length : Int) = 0)) : LQ.Check (0, o, (w : Int), p, sf, cs, (m, ro, ps, es, ()), ()) (b : Int) (W : Int) = some 60 := by
  have d1 : decide ((b : Int) < 1) = false := decide_eq_false (by omega)
  have d2 : decide ((b : Int) > 65535) = false := decide_eq_false (by omega)
  have d3 : decide ((W : Int) < 1) = false := decide_eq_false (by omega)
  have d4 : decide ((W : Int) > 33) = false := decide_eq_false (by omega)
  have d5 : decide ((w : Int) < 0) = false := decide_eq_false (by omega)
  have d6 : decide ((w : Int) ≥ (W : Int)) = false := decide_eq_false (by omega)
  have hB : ∃ bv, LQ.bare (0, o, (w : Int), p, sf, cs, (m, ro, ps, es, ()), ()) = some bv ∧ (bv = true → o = 0 ∧ m = 0 ∧ ro = 0 ∧ (ps.length : Int) = 0 ∧ (es.length : Int) = 0) := by
    unfold LQ.bare LQ.bare.t
    simp only [Tr.run_bind, Tr.run_br, Tr.run_ret, bifBind, someBind]
    by_cases a1 : o = 0
    rotate_left
    · rw [show (o == 0) = false from beq_eq_false_iff_ne.2 a1]; exact ⟨false, rfl, fun e => by cases e⟩
    rw [show (o == 0) = true from beq_iff_eq.2 a1, cond_true]
    by_cases a2 : m = 0
    rotate_left
    · rw [show (m == 0) = false from beq_eq_false_iff_ne.2 a2]; exact ⟨false, rfl, fun e => by cases e⟩
    rw [show (m == 0) = true from beq_iff_eq.2 a2, cond_true]
    by_cases a3 : ro = 0
    rotate_left
    · rw [show (ro == 0) = false from beq_eq_false_iff_ne.2 a3]; exact ⟨false, rfl, fun e => by cases e⟩
    rw [show (ro == 0) = true from beq_iff_eq.2 a3, cond_true]
    by_cases a4 : (ps.length : Int) = 0
    rotate_left
    · rw [show (Int.ofNat ps.length == 0) = false from beq_eq_false_iff_ne.2 a4]; exact ⟨false, rfl, fun e => by cases e⟩
    rw [show (Int.ofNat ps.length == 0) = true from beq_iff_eq.2 a4, cond_true]
    exact ⟨_, rfl, fun e => ⟨a1, a2, a3, a4, beq_iff_eq.1 e⟩⟩
  obtain ⟨bv, hB1, hB2⟩ := hB
  unfold LQ.Check LQ.Check.t
  simp only [Tr.run_bind, Tr.run_br, Tr.run_ret, Tr.run_csl, Tr.run_csr, bifBind, someBind, cond_true, cond_false, Int.reduceBEq, Int.reduceLE, Int.reduceGE, decide_true, decide_false, bifSame, d1, d2, d3, d4, d5, d6, Bool.not_false, Bool.not_true, hB1]
  cases bv with
  | false => rfl
  | true =>
    have hB3 := hB2 rfl
    simp only [cond_true]
    by_cases c1 : o ≥ 0
    rotate_left
    · exact absurd hB3.1 (by omega)
    rw [decide_eq_true c1, cond_true, decide_eq_true (p := o ≤ 4) (by omega), cond_true]
    by_cases c3 : p = 0
    rotate_left
    · rw [show (p == 0) = false from beq_eq_false_iff_ne.2 c3]; rfl
    rw [show (p == 0) = true from beq_iff_eq.2 c3, cond_true]
    by_cases c4 : sf = 0
    rotate_left
    · rw [show (sf == 0) = false from beq_eq_false_iff_ne.2 c4]; rfl
    rw [show (sf == 0) = true from beq_iff_eq.2 c4, cond_true]
    rw [show (Int.ofNat cs.length == 0) = false from beq_eq_false_iff_ne.2 fun e => h1 ⟨hB3.1, c3, c4, e, hB3.2⟩]
    rfl
theorem Check_ver (o p sf m ro : Int) (cs ps es : List Int) (b W w : Nat) (hb : 1 ≤ b ∧ b ≤ 65535) (hW : 1 ≤ W ∧ W ≤ 33) (hw : w < W) (h1 : ¬ (o = 0 ∧ p = 0 ∧ sf = 0 ∧ (cs.length : Int) = 0 ∧ m = 0 ∧ ro = 0 ∧ (ps.length : Int) = 0 ∧ (es.length : Int) = 0)) : LQ.Check (1, o, (w : Int), p, sf, cs, (m, ro, ps, es, ()), ()) (b : Int) (W : Int) = some 60 := by
  have d1 : decide ((b : Int) < 1) = false := decide_eq_false (by omega)
  have d2 : decide ((b : Int) > 65535) = false := decide_eq_false (by omega)
  have d3 : decide ((W : Int) < 1) = false := decide_eq_false (by omega)
  have d4 : decide ((W : Int) > 33) = false := decide_eq_false (by omega)
  have d5 : decide ((w : Int) < 0) = false := decide_eq_false (by omega)
  have d6 : decide ((w : Int) ≥ (W : Int)) = false := decide_eq_false (by omega)
  have hB : ∃ bv, LQ.bare (1, o, (w : Int), p, sf, cs, (m, ro, ps, es, ()), ()) = some bv ∧ (bv = true → o = 0 ∧ m = 0 ∧ ro = 0 ∧ (ps.length : Int) = 0 ∧ (es.length : Int) = 0) := by
    unfold LQ.bare LQ.bare.t
    simp only [Tr.run_bind, Tr.run_br, Tr.run_ret, bifBind, someBind]
    by_cases a1 : o = 0
    rotate_left
    · rw [show (o == 0) = false from beq_eq_false_iff_ne.2 a1]; exact ⟨false, rfl, fun e => by cases e⟩
    rw [show (o == 0) = true from beq_iff_eq.2 a1, cond_true]
    by_cases a2 : m = 0
    rotate_left
    · rw [show (m == 0) = false from beq_eq_false_iff_ne.2 a2]; exact ⟨false, rfl, fun e => by cases e⟩
    rw [show (m == 0) = true from beq_iff_eq.2 a2, cond_true]
    by_cases a3 : ro = 0
    rotate_left
    · rw [show (ro == 0) = false from beq_eq_false_iff_ne.2 a3]; exact ⟨false, rfl, fun e => by cases e⟩
    rw [show (ro == 0) = true from beq_iff_eq.2 a3, cond_true]
    by_cases a4 : (ps.length : Int) = 0
    rotate_left
    · rw [show (Int.ofNat ps.length == 0) = false from beq_eq_false_iff_ne.2 a4]; exact ⟨false, rfl, fun e => by cases e⟩
    rw [show (Int.ofNat ps.length == 0) = true from beq_iff_eq.2 a4, cond_true]
    exact ⟨_, rfl, fun e => ⟨a1, a2, a3, a4, beq_iff_eq.1 e⟩⟩
  obtain ⟨bv, hB1, hB2⟩ := hB
  unfold LQ.Check LQ.Check.t
  simp only [Tr.run_bind, Tr.run_br, Tr.run_ret, Tr.run_csl, Tr.run_csr, bifBind, someBind, cond_true, cond_false, Int.reduceBEq, Int.reduceLE, Int.reduceGE, decide_true, decide_false, bifSame, d1, d2, d3, d4, d5, d6, Bool.not_false, Bool.not_true, hB1]
  cases bv with
  | false => rfl
  | true =>
    have hB3 := hB2 rfl
    simp only [cond_true]
    by_cases c1 : o ≥ 0
    rotate_left
    · exact absurd hB3.1 (by omega)
    rw [decide_eq_true c1, cond_true, decide_eq_true (p := o ≤ 4) (by omega), cond_true]
    by_cases c3 : p = 0
    rotate_left
    · rw [show (p == 0) = false from beq_eq_false_iff_ne.2 c3]; rfl
    rw [show (p == 0) = true from beq_iff_eq.2 c3, cond_true]
    by_cases c4 : sf = 0
    rotate_left
    · rw [show (sf == 0) = false from beq_eq_false_iff_ne.2 c4]; rfl
    rw [show (sf == 0) = true from beq_iff_eq.2 c4, cond_true]
    rw [show (Int.ofNat cs.length == 0) = false from beq_eq_false_iff_ne.2 fun e => h1 ⟨hB3.1, c3, c4, e, hB3.2⟩]
    rfl
theorem Check_oth (k o p sf m ro : Int) (cs ps es : List Int) (b W w : Nat) (hb : 1 ≤ b ∧ b ≤ 65535) (hW : 1 ≤ W ∧ W ≤ 33) (hw : w < W) (h0 : k ≠ 0) (h1 : k ≠ 1) (h2 : k ≠ 2) (h3 : k ≠ 3) : LQ.Check (k, o, (w : Int), p, sf, cs, (m, ro, ps, es, ()), ()) (b : Int) (W : Int) = some 60 := by
  have d1 : decide ((b : Int) < 1) = false := decide_eq_false (by omega)
  have d2 : decide ((b : Int) > 65535) = false := decide_eq_false (by omega)
  have d3 : decide ((W : Int) < 1) = false := decide_eq_false (by omega)
  have d4 : decide ((W : Int) > 33) = false := decide_eq_false (by omega)
  have d5 : decide ((w : Int) < 0) = false := decide_eq_false (by omega)
  have d6 : decide ((w : Int) ≥ (W : Int)) = false := decide_eq_false (by omega)
  have f0 : (k == 0) = false := beq_eq_false_iff_ne.2 h0
  have f1 : (k == 1) = false := beq_eq_false_iff_ne.2 h1
  have f2 : (k == 2) = false := beq_eq_false_iff_ne.2 h2
  have f3 : (k == 3) = false := beq_eq_false_iff_ne.2 h3
  unfold LQ.Check LQ.Check.t
  simp only [Tr.run_bind, Tr.run_br, Tr.run_ret, Tr.run_csl, Tr.run_csr, bifBind, someBind, cond_true, cond_false, Int.reduceBEq, Int.reduceLE, Int.reduceGE, decide_true, decide_false, bifSame, d1, d2, d3, d4, d5, d6, Bool.not_false, Bool.not_true, f0, f1, f2, f3]
end Go.Proofs.Ytfblaicifdgfiaa.Dg
end

section
set_option linter.unusedVariables false
set_option linter.unusedSimpArgs false
set_option maxRecDepth 10000
namespace Go.Proofs.Ytfblaicifdgfiaa.Dg
open Go.LM
theorem nil_iff (l : List Int) : l = [] ↔ (l.length : Int) = 0 := by rw [← List.length_eq_zero_iff]; omega
theorem Check_dec (k o w p sf m ro : Int) (cs ps es : List Int) (b : Nat) (W : Int) (hb : b ≤ 65535) (hm : inR m) (hcs : ∀ c ∈ cs, inR c) (hcl : cs.length ≤ 1048576) :
    (∃ (s : Sb) (W' : Nat), W = (W' : Int) ∧ s.D = (k, o, w, p, sf, cs, (m, ro, ps, es, ()), ()) ∧ CkOK s W' b ∧ LQ.Check (k, o, w, p, sf, cs, (m, ro, ps, es, ()), ()) (b : Int) W = some 0) ∨ LQ.Check (k, o, w, p, sf, cs, (m, ro, ps, es, ()), ()) (b : Int) W = some 60 := by
  by_cases h0 : 1 ≤ b ∧ 1 ≤ W ∧ W ≤ 33 ∧ 0 ≤ w ∧ w < W
  rotate_left
  · exact .inr (Check_bad k o w p sf m ro cs ps es b W hb h0)
  obtain ⟨hb1, hW1, hW2, hw1, hw2⟩ := h0
  obtain ⟨W', rfl⟩ : ∃ W' : Nat, W = (W' : Int) := ⟨W.toNat, by omega⟩
  obtain ⟨w', rfl⟩ : ∃ w' : Nat, w = (w' : Int) := ⟨w.toNat, by omega⟩
  have hW : 1 ≤ W' ∧ W' ≤ 33 := by omega
  have hww : w' < W' := by omega
  by_cases k3 : k = 3
  · subst k3
    by_cases h1 : 1 ≤ o ∧ o ≤ 32 ∧ 1 ≤ p ∧ p ≤ 15 ∧ 0 ≤ sf ∧ sf ≤ 15 ∧ (cs.length : Int) = o
    rotate_left
    · exact .inr (Check_lpc0 o p sf m ro cs ps es b W' w' ⟨hb1, hb⟩ hW hww h1)
    obtain ⟨o1, o2, p1, p2, s1, s2, hol⟩ := h1
    obtain ⟨o', rfl⟩ : ∃ o' : Nat, o = (o' : Int) := ⟨o.toNat, by omega⟩
    obtain ⟨p', rfl⟩ : ∃ p' : Nat, p = (p' : Int) := ⟨p.toNat, by omega⟩
    obtain ⟨sf', rfl⟩ : ∃ sf' : Nat, sf = (sf' : Int) := ⟨sf.toNat, by omega⟩
    rcases ConF_dec cs 3 (o' : Int) (w' : Int) (sf' : Int) m ro p' cs ps es (by omega) (by omega) hcs hcl with ⟨hfit, hC⟩ | hC
    rotate_left
    · exact .inr ((Check_lpc1 m ro o' p' sf' cs ps es b W' w' ⟨hb1, hb⟩ hW hww (by omega) (by omega) (by omega) (by omega) true hC).trans rfl)
    have hk := Check_lpc1 m ro o' p' sf' cs ps es b W' w' ⟨hb1, hb⟩ hW hww (by omega) (by omega) (by omega) (by omega) false hC
    rw [cond_false] at hk
    by_cases hob : o' ≤ b
    rotate_left
    · right
      rw [hk, decide_eq_true (by omega)]; rfl
    rw [decide_eq_false (p := (o' : Int) > (b : Int)) (by omega), cond_false] at hk
    rcases rCheck_dec m ro b o' ps es hm ⟨hb1, hb⟩ (by omega) with ⟨m', ro', rfl, rfl, hrc, hr0⟩ | hr
    · left
      refine ⟨⟨3, o', w', p', sf', m', ro', cs, ps, es⟩, W', rfl, rfl, ⟨hb1, hb, hW.1, hW.2, hww, Nat.le_refl 3, fun e => absurd e (by show ¬ 3 < 2; decide), fun e => absurd e (by show ¬ 3 ≤ 2; decide), (fun e => by cases e), fun _ => ⟨by show 1 ≤ o'; omega, by show o' ≤ 32; omega, by show 1 ≤ p'; omega, by show p' ≤ 15; omega, by show sf' ≤ 15; omega, by show cs.length = o'; omega, hfit⟩, hob, fun _ => ⟨hrc, hr0⟩⟩, ?_⟩
      rw [hk, hr0]; rfl
    · right
      rw [hk, hr]; rfl
  by_cases k2 : k = 2
  · subst k2
    by_cases h1 : 0 ≤ o ∧ o ≤ 4 ∧ p = 0 ∧ sf = 0 ∧ (cs.length : Int) = 0
    rotate_left
    · exact .inr (Check_fix0 o p sf m ro cs ps es b W' w' ⟨hb1, hb⟩ hW hww h1)
    obtain ⟨o1, o2, rfl, rfl, hcs0⟩ := h1
    have := (nil_iff cs).2 hcs0
    subst this
    obtain ⟨o', rfl⟩ : ∃ o' : Nat, o = (o' : Int) := ⟨o.toNat, by omega⟩
    have hk := Check_fix1 m ro o' ps es b W' w' ⟨hb1, hb⟩ hW hww (by omega)
    by_cases hob : o' ≤ b
    rotate_left
    · right
      rw [hk, decide_eq_true (by omega)]; rfl
    rw [decide_eq_false (p := (o' : Int) > (b : Int)) (by omega), cond_false] at hk
    rcases rCheck_dec m ro b o' ps es hm ⟨hb1, hb⟩ (by omega) with ⟨m', ro', rfl, rfl, hrc, hr0⟩ | hr
    · left
      refine ⟨⟨2, o', w', 0, 0, m', ro', [], ps, es⟩, W', rfl, rfl, ⟨hb1, hb, hW.1, hW.2, hww, (by show 2 ≤ 3; decide), fun e => absurd e (by show ¬ 2 < 2; decide), fun _ => ⟨rfl, rfl, rfl⟩, fun _ => (by show o' ≤ 4; omega), (fun e => by cases e), hob, fun _ => ⟨hrc, hr0⟩⟩, ?_⟩
      rw [hk, hr0]; rfl
    · right
      rw [hk, hr]; rfl
  by_cases h1 : (k = 0 ∨ k = 1) ∧ o = 0 ∧ p = 0 ∧ sf = 0 ∧ (cs.length : Int) = 0 ∧ m = 0 ∧ ro = 0 ∧ (ps.length : Int) = 0 ∧ (es.length : Int) = 0
  · obtain ⟨hk01, rfl, rfl, rfl, hc0, rfl, rfl, hp0, he0⟩ := h1
    have := (nil_iff cs).2 hc0
    subst this
    have := (nil_iff ps).2 hp0
    subst this
    have := (nil_iff es).2 he0
    subst this
    left
    rcases hk01 with rfl | rfl
    · exact ⟨⟨0, 0, w', 0, 0, 0, 0, [], [], []⟩, W', rfl, rfl, ⟨hb1, hb, hW.1, hW.2, hww, Nat.zero_le 3, fun _ => ⟨rfl, rfl, rfl, rfl, rfl⟩, fun _ => ⟨rfl, rfl, rfl⟩, (fun e => by cases e), (fun e => by cases e), Nat.zero_le _, fun e => absurd e (by show ¬ 2 ≤ 0; decide)⟩, Check_eq 0 (.inl rfl) w' b W' ⟨hb1, hb⟩ hW hww⟩
    · exact ⟨⟨1, 0, w', 0, 0, 0, 0, [], [], []⟩, W', rfl, rfl, ⟨hb1, hb, hW.1, hW.2, hww, (by show 1 ≤ 3; decide), fun _ => ⟨rfl, rfl, rfl, rfl, rfl⟩, fun _ => ⟨rfl, rfl, rfl⟩, (fun e => by cases e), (fun e => by cases e), Nat.zero_le _, fun e => absurd e (by show ¬ 2 ≤ 1; decide)⟩, Check_eq 1 (.inr rfl) w' b W' ⟨hb1, hb⟩ hW hww⟩
  · right
    by_cases k0 : k = 0
    · subst k0
      exact Check_con o p sf m ro cs ps es b W' w' ⟨hb1, hb⟩ hW hww (fun e => h1 ⟨.inl rfl, e⟩)
    · by_cases k1 : k = 1
      · subst k1
        exact Check_ver o p sf m ro cs ps es b W' w' ⟨hb1, hb⟩ hW hww (fun e => h1 ⟨.inr rfl, e⟩)
      · exact Check_oth k o p sf m ro cs ps es b W' w' ⟨hb1, hb⟩ hW hww k0 k1 k2 k3
structure GoOK (s : Sb) (W : Nat) (l : List Int) : Prop where
  dv : ∀ n ∈ l, n / ((2 ^ s.wst : Nat) : Int) * ((2 ^ s.wst : Nat) : Int) = n
  ft : ∀ n ∈ l, fitsW W n
  con : s.k = 0 → ∀ n ∈ l, n = l.getD 0 0
  w31 : s.wst ≤ 31
theorem Shift_dec (l : List Int) (wst : Nat) (hw : wst ≤ 33) (hl : l.length ≤ 1048576) (hr : ∀ n ∈ l, inR n) : (wst ≤ 31 ∧ (∀ n ∈ l, n / ((2 ^ wst : Nat) : Int) * ((2 ^ wst : Nat) : Int) = n) ∧ LQ.Shift l (wst : Int) = some (mids wst l, 0)) ∨ LQ.Shift l (wst : Int) = some ([], 1) := by
  by_cases h31 : wst ≤ 31
  rotate_left
  · right
    unfold LQ.Shift LQ.Shift.t
    rw [Tr.run_bind, Tr.run_br, decide_eq_false (by omega), cond_false, Tr.run_ret, someBind, decide_eq_true (by omega)]; rfl
  have d1 : decide ((wst : Int) < 0) = false := decide_eq_false (by omega)
  have d2 : decide ((wst : Int) > 31) = false := decide_eq_false (by omega)
  have key := loopO_ex (f := fun (d : Int × List Int) ↦ (LQ.Shift.l0 l (wst : Int) d.fst d.snd).run) (fun i => l.getD i 0 / ((2 ^ wst : Nat) : Int) * ((2 ^ wst : Nat) : Int) = l.getD i 0) (.inl (1 : Int)) (.inr (mids wst l)) l.length (fun k => ((k : Int), (mids wst l).take k)) (fun k hk => by
    have hn : inR (l.getD k 0) := hr _ (by rw [getD_lt _ _ hk]; exact List.getElem_mem hk)
    have hp : 0 < 2 ^ wst := Nat.pow_pos (by decide)
    have hrange : -9223372036854775808 ≤ l.getD k 0 / ((2 ^ wst : Nat) : Int) * ((2 ^ wst : Nat) : Int) ∧ l.getD k 0 / ((2 ^ wst : Nat) : Int) * ((2 ^ wst : Nat) : Int) < 9223372036854775808 := by
      unfold inR at hn
      have e := Int.mul_ediv_add_emod (l.getD k 0) ((2 ^ wst : Nat) : Int)
      have h1 := Int.emod_nonneg (l.getD k 0) (b := ((2 ^ wst : Nat) : Int)) (by omega)
      have h2 := Int.emod_lt_of_pos (l.getD k 0) (b := ((2 ^ wst : Nat) : Int)) (by omega)
      have hq : 2 ^ 63 = 2 ^ wst * 2 ^ (63 - wst) := by rw [← Nat.pow_add]; congr 1; omega
      rw [Int.mul_comm] at e
      refine ⟨?_, by omega⟩
      have h3 : -((2 ^ (63 - wst) : Nat) : Int) ≤ l.getD k 0 / ((2 ^ wst : Nat) : Int) := by
        rw [Int.le_ediv_iff_mul_le (by omega), Int.neg_mul, ← Int.natCast_mul, Nat.mul_comm, ← hq]
        exact hn.1
      have h4 := Int.mul_le_mul_of_nonneg_right h3 (show (0 : Int) ≤ ((2 ^ wst : Nat) : Int) by omega)
      rw [Int.neg_mul, ← Int.natCast_mul, Nat.mul_comm, ← hq] at h4
      exact h4
    unfold LQ.Shift.l0
    dsimp only
    rw [Tr.run_br, decide_eq_true (by simp only [Int.ofNat_eq_natCast]; omega), cond_true, Tr.run_need _ (by simp only [Int.ofNat_eq_natCast]; omega), Tr.run_need _ (by omega), Tr.run_need _ (by omega), p2_nat _ _ (by omega), Int.toNat_natCast, Tr.run_br, w64_id hrange]
    by_cases he : l.getD k 0 / ((2 ^ wst : Nat) : Int) * ((2 ^ wst : Nat) : Int) = l.getD k 0
    · left
      refine ⟨he, ?_⟩
      rw [he, bne_self_eq_false, cond_false, Tr.run_need _ (by omega), Tr.run_need _ (by simp only [List.length_take, mids_len, List.length_set, List.length_replicate]; omega), Tr.run_ret, w64_id (by omega)]
      have e : (mids wst l).take (k + 1) = (mids wst l).take k ++ [l.getD k 0 / ((2 ^ wst : Nat) : Int)] := by
        rw [List.take_succ_eq_append_getElem (by rw [mids_len]; exact hk), getD_lt _ _ hk]
        simp [mids]
      rw [e]; rfl
    · right
      rw [bne_iff_ne.2 he]; rfl) (by
    unfold LQ.Shift.l0
    dsimp only
    rw [Tr.run_br, decide_eq_false (by simp only [Int.ofNat_eq_natCast]; omega), cond_false, Tr.run_ret, List.take_of_length_le (by rw [mids_len]; exact Nat.le_refl _)])
  have pre : ∀ r, loopO (fun (d : Int × List Int) ↦ (LQ.Shift.l0 l (wst : Int) d.fst d.snd).run) ((0 : Int), []) = some r → LQ.Shift l (wst : Int) = (Tr.cs Int (List Int) r (0 : Int) [] (fun (r2 : Int) ↦ Tr.ret (([] : List Int), r2)) fun (r3 : List Int) ↦ Tr.ret (r3, (0 : Int))).run := fun r h => by
    unfold LQ.Shift LQ.Shift.t
    rw [Tr.run_bind, Tr.run_br, d1, cond_false, Tr.run_ret, someBind, d2, Tr.run_br, cond_false, Tr.run_bind]
    exact bindT h
  rcases key with ⟨k1, k2⟩ | k1
  · left
    refine ⟨h31, fun n hn => ?_, (pre _ k1).trans rfl⟩
    obtain ⟨i, hi, rfl⟩ := List.getElem_of_mem hn
    have := k2 i hi
    rw [getD_lt _ _ hi] at this
    exact this
  · exact .inr ((pre _ k1).trans rfl)
theorem goes_dec (s : Sb) (W : Nat) (l : List Int) (hW : 1 ≤ W ∧ W ≤ 33) (hws : s.wst < W) (hl : l.length ≤ 1048576) (hr : ∀ n ∈ l, inR n) : (GoOK s W l ∧ LQ.goes s.D (W : Int) l = some (mids s.wst l, true)) ∨ ∃ x, LQ.goes s.D (W : Int) l = some (x, false) := by
  obtain ⟨k, o, wst, pr, sf, m, ro, cs, ps, es⟩ := s
  simp only at hws
  have hk0 : ((k : Int) == 0) = decide (k = 0) := by rw [Bool.eq_iff_iff, beq_iff_eq, decide_eq_true_eq]; omega
  have key := loopO_ex (f := (fun (d : Int × Int × Int × Int × Int × Int × List Int × Int × Int × List Int × List Int) ↦ (LQ.goes.l0 (W : Int) l d.fst d.snd.fst d.snd.snd.fst d.snd.snd.snd.fst d.snd.snd.snd.snd.fst d.snd.snd.snd.snd.snd.fst d.snd.snd.snd.snd.snd.snd.fst d.snd.snd.snd.snd.snd.snd.snd.fst d.snd.snd.snd.snd.snd.snd.snd.snd.fst d.snd.snd.snd.snd.snd.snd.snd.snd.snd.fst d.snd.snd.snd.snd.snd.snd.snd.snd.snd.snd).run))
    (fun i => fitsW W (l.getD i 0) ∧ (k = 0 → l.getD i 0 = l.getD 0 0)) (.inl false) (.inr ((k : Int), (o : Int), (wst : Int), (pr : Int), (sf : Int), cs, (m : Int), (ro : Int), ps, es)) l.length (fun i => ((i : Int), (k : Int), (o : Int), (wst : Int), (pr : Int), (sf : Int), cs, (m : Int), (ro : Int), ps, es)) (fun i hi => by
      have hn : inR (l.getD i 0) := hr _ (by rw [getD_lt _ _ hi]; exact List.getElem_mem hi)
      have hd := sfits_dec (l.getD i 0) W hW.1 (by omega) hn
      unfold LQ.goes.l0
      dsimp only
      rw [Tr.run_br, decide_eq_true (by simp only [Int.ofNat_eq_natCast]; omega), cond_true, Tr.run_need _ (by simp only [Int.ofNat_eq_natCast]; omega), Int.toNat_natCast, Tr.run_bind, Tr.run_bind, w64_id (x := (i : Int) + 1) (by omega)]
      rcases hd with ⟨a, b⟩ | b
      rotate_left
      · right; rw [b]; rfl
      rw [b, someBind, Bool.not_true, Tr.run_br, cond_false, Tr.run_br, hk0]
      by_cases e0 : k = 0
      · rw [decide_eq_true e0, cond_true, Tr.run_need _ (by simp only [Int.ofNat_eq_natCast]; omega), Tr.run_ret, someBind]
        by_cases e1 : l.getD i 0 = l.getD 0 0
        · left
          refine ⟨⟨a, fun _ => e1⟩, ?_⟩
          rw [e1, bne_self_eq_false]; rfl
        · right
          rw [bne_iff_ne.2 e1]; rfl
      · left
        refine ⟨⟨a, fun e => absurd e e0⟩, ?_⟩
        rw [decide_eq_false e0]; rfl) (by
      unfold LQ.goes.l0
      dsimp only
      rw [Tr.run_br, decide_eq_false (by simp only [Int.ofNat_eq_natCast]; omega), cond_false, Tr.run_ret])
  unfold LQ.goes LQ.goes.t Sb.D
  dsimp only
  rw [Tr.run_bind]
  rcases key with ⟨k1, k2⟩ | k1
  rotate_left
  · right
    refine ⟨[], (bindT k1).trans ?_⟩
    rfl
  have hft : ∀ n ∈ l, fitsW W n := fun n hn => by
    obtain ⟨i, hi, rfl⟩ := List.getElem_of_mem hn
    have := (k2 i hi).1
    rw [getD_lt _ _ hi] at this
    exact this
  have hcon : k = 0 → ∀ n ∈ l, n = l.getD 0 0 := fun e n hn => by
    obtain ⟨i, hi, rfl⟩ := List.getElem_of_mem hn
    have := (k2 i hi).2 e
    rw [getD_lt _ _ hi] at this
    exact this
  rcases Shift_dec l wst (by omega) hl hr with ⟨h31, hdv, hS⟩ | hS
  · left
    refine ⟨⟨hdv, hft, hcon, h31⟩, (bindT k1).trans ?_⟩
    rw [Tr.run_csr, Tr.run_bind]
    exact (bindT hS).trans rfl
  · right
    refine ⟨[], (bindT k1).trans ?_⟩
    rw [Tr.run_csr, Tr.run_bind]
    exact (bindT hS).trans rfl
end Go.Proofs.Ytfblaicifdgfiaa.Dg
end

