/- Aha: AhA AhB AhC AhD. -/
import Derived.Test.YtfblaicifdgfiaaAfc
section
set_option linter.unusedVariables false
set_option linter.unusedSimpArgs false
set_option maxRecDepth 10000
namespace Go.Proofs.Ytfblaicifdgfiaa.Dg
open Go.LM
theorem fits2 {r c w : Int} {pl : List (List Int)} (h : fitsV 2 r c w pl = 0) : pcmOk r c w pl = true ∧ w % 8 = 0 := by
  unfold fitsV at h
  rw [decide_eq_false (by omega), cond_false] at h
  cases hk : pcmOk r c w pl with
  | false => rw [hk, cond_false] at h; exact absurd h (by decide)
  | true =>
    rw [hk, cond_true, decide_eq_true (p := (2 : Int) ≤ 2) (by omega), cond_true] at h
    refine ⟨rfl, ?_⟩
    by_cases h8 : w % 8 = 0
    · exact h8
    · rw [decide_eq_false h8, cond_false] at h; exact absurd h (by decide)
theorem pack_len {r c w : Int} {pl : List (List Int)} (big : Bool) (hp : PB pl) (h : pcmOk r c w pl = true) : (packV big false w.toNat pl).length ≤ 33554432 := by
  obtain ⟨W, C, rfl, rfl, h1, h2, h3, h4, h5, _⟩ := pcmOk_parts h
  have := rows_le big false W pl (pl.getD 0 []).length ⟨h1, h2⟩ (by omega)
  have hn := hp.n2 0
  rw [Int.toNat_natCast]
  unfold packV
  omega
theorem bclo_eq (s : List UInt8) (r c w : Int) (pl : List (List Int)) (form : List UInt8) (l : List ChunkD) (hp : PB pl) (hl : l.length ≤ 1099511627776) :
    LQ.bclo 0 s (r, c, w, pl) form l = some (bif endOk (r, c, w, pl, ()) (form, l, ()) s then (0, s, (r, c, w, pl), form, l) else (60, [], (r, c, w, pl), form, l)) := by
  unfold LQ.bclo LQ.bclo.t endOk
  have h1 := pSame_two (r, c, w, pl, ()) (parV s).1 (by have := hp.n1; exact this) (fun i => by have := hp.n2 i; show (pl.getD i []).length ≤ _; omega)
  have h2 := eqCh_eq l (parV s).2.1.2.1 hl
  rw [Tr.run_br, show ((0 : Int) != 0) = false from rfl, cond_false, Tr.run_bind, Parse_eq, someBind]
  have h1' : LQ.pcm_Same (r, c, w, pl, ()) ((parV s).1.1, (parV s).1.2.1, (parV s).1.2.2.1, (parV s).1.2.2.2.1, ()) = some (sameP (r, c, w, pl, ()) (parV s).1) := h1
  simp only [Tr.run_bind, Tr.run_br, Tr.run_ret, h1', h2, someBind, bifSome]
  have e0 : ((parV s).2.2 != 0) = !((parV s).2.2 == 0) := rfl
  rw [e0]
  cases (parV s).2.2 == 0
  · rfl
  · cases sameP (r, c, w, pl, ()) (parV s).1
    · rfl
    · cases form == (parV s).2.1.1
      · rfl
      · cases l == (parV s).2.1.2.1 <;> rfl
theorem layAll_len {l : List ChunkD} (h : (layAll true l).2 = 0) : (layAll true l).1.length ≤ szL l + 5120 ∧ l.length ≤ 1024 ∧ (layAll true l).1 = l.flatMap pc ∧ ((List.range l.length).all (fun k => !badAt l k)) = true := by
  unfold layAll at h ⊢
  by_cases hn : l.length > 1024
  · rw [decide_eq_true hn, cond_true] at h; exact absurd h (by decide)
  · rw [decide_eq_false hn, cond_false] at h ⊢
    cases hb : (List.range l.length).all (fun k => !badAt l k) with
    | false => rw [hb, cond_false] at h; exact absurd h (by decide)
    | true =>
      rw [cond_true]
      have := flat_sz l
      simp only [layL_flat]
      exact ⟨by omega, by omega, trivial, trivial⟩
theorem Build_eq (r c w : Int) (pl : List (List Int)) (form : List UInt8) (l : List ChunkD) (hp : PB pl) (hl : l.length ≤ 1048576) (hsz : szL l ≤ 2097152) (hfl : form.length ≤ 1048576) :
    LQ.Build (r, c, w, pl, ()) (form, l, ()) = some (bldV (r, c, w, pl, ()) (form, l, ())) := by
  have r1 : LQ.only l [(67 : UInt8), (79 : UInt8), (77 : UInt8), (77 : UInt8)] = _ := only_eq l coV (by omega)
  have r2 : LQ.only l [(83 : UInt8), (83 : UInt8), (78 : UInt8), (68 : UInt8)] = _ := only_eq l snV (by omega)
  have hF := Fits_eq 2 r c w pl hp
  unfold LQ.Build LQ.Build.t
  dsimp only
  rw [Tr.run_bind, hF, someBind, Tr.run_br]
  unfold bldV
  dsimp only
  cases h0 : fitsV 2 r c w pl != 0 with
  | true => rfl
  | false =>
    have h0 : fitsV 2 r c w pl = 0 := by simpa using h0
    obtain ⟨hk, h8⟩ := fits2 h0
    rw [cond_false, cond_false, Tr.run_bind, r1, someBind]
    dsimp only
    rw [Tr.run_bind, r2, someBind]
    dsimp only
    rw [Tr.run_bind]
    generalize hX : (Tr.br (decide (ixL coV l 0 < (0 : Int))) _ _).run = o3
    have ho3 : o3 = some (ctBad l || form.length != 4, (0 : Int), [], (r, c, w, pl), form, l) := by
      rw [← hX]
      unfold ctBad
      have e4 : (Int.ofNat form.length != (4 : Int)) = (form.length != 4) := lenNeq form 4
      rw [e4]
      by_cases hc : ctL coV l = 0
      · rw [ixL_none coV l 0 hc, hc]; rfl
      · have := ix_bd (l := l) (id := coV) (by omega)
        rw [decide_eq_false (by omega)]
        by_cases hc1 : ctL coV l = 1
        · rw [hc1]
          by_cases hc2 : ctL snV l ≤ 1
          · rw [decide_eq_true hc2, decide_eq_false (p := 1 < ctL snV l) (by omega)]; rfl
          · rw [decide_eq_false hc2, decide_eq_true (p := 1 < ctL snV l) (by omega)]; rfl
        · rw [decide_eq_false (p := ctL coV l ≤ 1) (by omega), show (ctL coV l != 1) = true by rw [bne_iff_ne]; exact hc1]; rfl
    clear hX
    rw [bindT ho3]
    dsimp only
    rw [Tr.run_br]
    cases h4 : ctBad l || form.length != 4 with
    | true => rfl
    | false =>
      rw [Bool.or_eq_false_iff] at h4
      obtain ⟨c1, c2⟩ := ct_none h4.1
      have b1 := ix_bd (l := l) (id := coV) (by omega)
      have hsm := fun k => sz_mem l k
      rw [cond_false, cond_false, Tr.run_need _ (by simp only [Int.ofNat_eq_natCast]; omega), Tr.run_bind]
      obtain ⟨x, q1, q2⟩ := read_eq (commB l) (form == acV) (by have := hsm (ixL coV l 0).toNat; unfold commB; omega)
      change ((LQ.read (commB l) (form == acV)).bind _) = _
      rw [q1, someBind]
      dsimp only
      rw [Tr.run_br]
      cases h5 : comE (commB l) (form == acV) != 0 with
      | true => rfl
      | false =>
        have h5 : comE (commB l) (form == acV) = 0 := by simpa using h5
        have hD : (datP (r, c, w, pl, ()) (form, l, ())).length ≤ 33554432 := pack_len _ hp hk
        have hPk : LQ.pcm_Pack (r, c, w, pl, ()) (cmBig (commB l) (form == acV), false, ()) = some (datP (r, c, w, pl, ()) (form, l, ()), 0) := by
          rw [Pack_eq r c w pl _ false hp, hk]; rfl
        unfold outV
        dsimp only
        generalize datP (r, c, w, pl, ()) (form, l, ()) = D at hD hPk
        have hA := addL_sz l D
        rw [q2 h5, cond_false, cond_false, h5]
        dsimp only
        have hCl : LQ.CloneD l = some l := by unfold LQ.CloneD; rw [if_pos (by omega)]
        rw [Tr.run_bind, hCl, someBind, Tr.run_bind]
        generalize hX : (Tr.br (decide (ixL snV l 0 ≥ (0 : Int))) _ _).run = o4
        have ho4 : o4 = some ((0 : Int), [], (r, c, w, pl), (form, l), addL l D) := by
          rw [← hX, Tr.run_br]
          unfold addL
          by_cases hc : ctL snV l = 0
          · rw [ixL_none snV l 0 hc, hc]; rfl
          · have b2 := ix_bd (l := l) (id := snV) (by omega)
            have hc1 : ctL snV l = 1 := by omega
            have hs1 := hsm (ixL snV l 0).toNat
            rw [decide_eq_true (by omega), hc1, cond_true, Tr.run_bind, hPk, someBind]
            dsimp only
            have n2 : (l.getD (ixL snV l 0).toNat ([], [], (0 : Int), ())).2.1.length + D.length ≤ (4611686018427387904 : Nat) := by
              change (l.getD (ixL snV l 0).toNat zCh).2.1.length + D.length ≤ _; omega
            rw [Tr.run_need _ (by simp only [Int.ofNat_eq_natCast]; omega), Tr.run_need _ n2, Tr.run_need _ (by simp only [Int.ofNat_eq_natCast]; omega)]
            rfl
        clear hX
        rw [bindT ho4]
        dsimp only
        have hLay := Lay_eq (addL l D) true (fun k => by have := sz_mem (addL l D) k; omega)
        rw [Tr.run_bind, hLay, someBind, Tr.run_br]
        cases h6 : (layAll true (addL l D)).2 != 0 with
        | true => rfl
        | false =>
          have h6 : (layAll true (addL l D)).2 = 0 := by simpa using h6
          have hll := (layAll_len h6).1
          generalize (layAll true (addL l D)).1 = body at hll
          rw [cond_false, cond_false]
          have e5 : w64 (Int.ofNat body.length + (4 : Int)) = ((body.length + 4 : Nat) : Int) := by simp only [Int.ofNat_eq_natCast]; rw [w64_id (by omega)]; omega
          have hBe : LQ.bytes_Be ((body.length + 4 : Nat) : Int) 4 = some ((leB (body.length + 4) 4).reverse, 0) := bBe_eq _ (by omega)
          have hl4 : ((leB (body.length + 4) 4).reverse).length = 4 := by rw [List.length_reverse, leB_len]
          rw [Tr.run_bind, e5, hBe, someBind]
          dsimp only
          rw [Tr.run_br, show ((0 : Int) != 0) = false from rfl, cond_false]
          rw [Tr.run_need _ (by rw [hl4]; omega), Tr.run_need _ (by simp only [List.append_eq, List.length_append, hl4, List.length_cons, List.length_nil]; omega), Tr.run_need _ (by simp only [List.append_eq, List.length_append, hl4, List.length_cons, List.length_nil]; omega), Tr.run_bind]
          change (LQ.bclo 0 (fileV form body) (r, c, w, pl) form l).bind _ = _
          rw [bclo_eq (fileV form body) r c w pl form l hp (by omega), someBind]
          cases endOk (r, c, w, pl, ()) (form, l, ()) (fileV form body) <;> rfl
theorem rBuild_eq (r c w : Int) (pl : List (List Int)) (form : List UInt8) (l : List ChunkD) (hp : PB pl) (hl : l.length ≤ 1048576) (hsz : szL l ≤ 2097152) (hfl : form.length ≤ 1048576) :
    LQ.r7_Build (r, c, w, pl, ()) (form, l, ()) = some (bldV (r, c, w, pl, ()) (form, l, ())) := by
  have r1 : LQ.find l [(67 : UInt8), (79 : UInt8), (77 : UInt8), (77 : UInt8)] = _ := find_eq l coV (by omega)
  have r2 : LQ.find l [(83 : UInt8), (83 : UInt8), (78 : UInt8), (68 : UInt8)] = _ := find_eq l snV (by omega)
  have hF := rFits_eq 2 r c w pl hp
  unfold LQ.r7_Build LQ.r7_Build.t
  dsimp only
  rw [Tr.run_bind, hF, someBind, Tr.run_br]
  unfold bldV
  dsimp only
  cases h0 : fitsV 2 r c w pl != 0 with
  | true => rfl
  | false =>
    have h0 : fitsV 2 r c w pl = 0 := by simpa using h0
    obtain ⟨hk, h8⟩ := fits2 h0
    rw [cond_false, cond_false, Tr.run_bind, r1, someBind]
    dsimp only
    rw [Tr.run_bind]
    generalize hX : (Tr.br ((ctL coV l : Int) != (1 : Int)) _ _).run = o3
    have ho3 : o3 = some (ctL coV l != 1 || form.length != 4, (r, c, w, pl), form, l) := by
      rw [← hX]
      have e4 : (Int.ofNat form.length != (4 : Int)) = (form.length != 4) := lenNeq form 4
      have e1 : ((ctL coV l : Int) != (1 : Int)) = (ctL coV l != 1) := by
        rw [Bool.eq_iff_iff, bne_iff_ne, bne_iff_ne]; omega
      rw [e4, e1]
      cases ctL coV l != 1 <;> rfl
    clear hX
    rw [bindT ho3]
    dsimp only
    rw [Tr.run_br]
    cases h4 : ctL coV l != 1 || form.length != 4 with
    | true =>
      have : (ctBad l || form.length != 4) = true := by
        unfold ctBad
        rw [Bool.or_eq_true] at h4 ⊢
        rcases h4 with h4 | h4
        · exact .inl (by rw [h4]; rfl)
        · exact .inr h4
      rw [this]; rfl
    | false =>
      rw [Bool.or_eq_false_iff] at h4
      have c1 : ctL coV l = 1 := by simpa using h4.1
      have b1 := ix_bd (l := l) (id := coV) (by omega)
      have hsm := fun k => sz_mem l k
      rw [laL_one coV l 0 (-1) c1, cond_false, Tr.run_need _ (by simp only [Int.ofNat_eq_natCast]; omega), Tr.run_bind]
      obtain ⟨x, q1, q2⟩ := comm_eq (commB l) (form == acV) (by have := hsm (ixL coV l 0).toNat; unfold commB; omega)
      change ((LQ.comm (commB l) (form == acV)).bind _) = _
      rw [q1, someBind]
      dsimp only
      rw [Tr.run_br]
      have hctb : (ctBad l || form.length != 4) = decide (1 < ctL snV l) := by
        unfold ctBad
        rw [h4.1, h4.2, Bool.false_or, Bool.or_false]
      rw [hctb]
      cases h5 : comE (commB l) (form == acV) != 0 with
      | true => cases decide (1 < ctL snV l) <;> rfl
      | false =>
        have h5 : comE (commB l) (form == acV) = 0 := by simpa using h5
        have hD : (datP (r, c, w, pl, ()) (form, l, ())).length ≤ 33554432 := pack_len _ hp hk
        have hPk : LQ.r5_Pack (r, c, w, pl, ()) (cmBig (commB l) (form == acV), false, ()) = some (datP (r, c, w, pl, ()) (form, l, ()), 0) := by
          rw [rPack_eq r c w pl _ false hp, hk]; rfl
        have hen : ∀ s, decide (1 < ctL snV l) = true → endOk (r, c, w, pl, ()) (form, l, ()) s = false := fun s hd => by
          cases he : endOk (r, c, w, pl, ()) (form, l, ()) s with
          | false => rfl
          | true => have h7 : ctL snV l ≤ 1 := end_one he
                    have := of_decide_eq_true hd; omega
        unfold outV
        dsimp only
        generalize datP (r, c, w, pl, ()) (form, l, ()) = D at hD hPk
        have hA := addL_sz l D
        rw [q2 h5, cond_false, cond_false]
        dsimp only
        rw [Tr.run_bind, Bool.not_not, hPk, someBind]
        dsimp only
        rw [Tr.run_need _ (by omega), Tr.run_bind, r2, someBind]
        dsimp only
        rw [Tr.run_bind]
        generalize hX : (Tr.br ((ctL snV l : Int) == (1 : Int)) _ _).run = o4
        have ho4 : o4 = some ((r, c, w, pl), (form, l), addL l D) := by
          rw [← hX, Tr.run_br]
          unfold addL
          have e1 : ((ctL snV l : Int) == (1 : Int)) = (ctL snV l == 1) := by
            rw [Bool.eq_iff_iff, beq_iff_eq, beq_iff_eq]; omega
          rw [e1]
          cases hc : ctL snV l == 1 with
          | false => rfl
          | true =>
            have hc := beq_iff_eq.1 hc
            have b2 := ix_bd (l := l) (id := snV) (by omega)
            have hs1 := hsm (ixL snV l 0).toNat
            rw [laL_one snV l 0 (-1) hc, cond_true, cond_true]
            have n2 : (l.getD (ixL snV l 0).toNat ([], [], (0 : Int), ())).2.1.length + D.length ≤ (4611686018427387904 : Nat) := by
              change (l.getD (ixL snV l 0).toNat zCh).2.1.length + D.length ≤ _; omega
            rw [Tr.run_need _ (by simp only [Int.ofNat_eq_natCast]; omega), Tr.run_need _ n2, Tr.run_need _ (by simp only [Int.ofNat_eq_natCast]; omega)]
            rfl
        clear hX
        rw [bindT ho4]
        dsimp only
        have hLay := rLay_eq (addL l D) true (fun k => by have := sz_mem (addL l D) k; omega)
        rw [Tr.run_bind, hLay, someBind, Tr.run_br]
        cases h6 : (layAll true (addL l D)).2 != 0 with
        | true => cases decide (1 < ctL snV l) <;> rfl
        | false =>
          have h6 : (layAll true (addL l D)).2 = 0 := by simpa using h6
          have hll := (layAll_len h6).1
          generalize (layAll true (addL l D)).1 = body at hll
          rw [cond_false, cond_false]
          have e5 : w64 ((4 : Int) + Int.ofNat body.length) = ((body.length + 4 : Nat) : Int) := by simp only [Int.ofNat_eq_natCast]; rw [w64_id (by omega)]; omega
          have hBe : LQ.r2_Be ((body.length + 4 : Nat) : Int) 4 = some ((leB (body.length + 4) 4).reverse, 0) := Be_eq _ 4 (by omega) (by omega) (by omega) (fun _ => by omega)
          have hl4 : ((leB (body.length + 4) 4).reverse).length = 4 := by rw [List.length_reverse, leB_len]
          rw [Tr.run_bind, e5, hBe, someBind]
          dsimp only
          rw [Tr.run_need _ (by rw [hl4]; omega), Tr.run_need _ (by simp only [List.append_eq, List.length_append, hl4, List.length_cons, List.length_nil]; omega), Tr.run_need _ (by simp only [List.append_eq, List.length_append, hl4, List.length_cons, List.length_nil]; omega), Tr.run_bind]
          change (LQ.r7_Parse (fileV form body)).bind _ = _
          rw [rParse_eq, someBind]
          have g1 := rSame_two (r, c, w, pl, ()) (parV (fileV form body)).1 (by have := hp.n1; exact this) (fun i => by have := hp.n2 i; show (pl.getD i []).length ≤ _; omega)
          have g1' : LQ.r5_Same (r, c, w, pl, ()) ((parV (fileV form body)).1.1, (parV (fileV form body)).1.2.1, (parV (fileV form body)).1.2.2.1, (parV (fileV form body)).1.2.2.2.1, ()) = some (sameP (r, c, w, pl, ()) (parV (fileV form body)).1) := g1
          have g2 : LQ.r7_Same (form, l, ()) ((parV (fileV form body)).2.1.1, (parV (fileV form body)).2.1.2.1, ()) = some (form == (parV (fileV form body)).2.1.1 && l == (parV (fileV form body)).2.1.2.1) := Same7_eq (form, l, ()) ((parV (fileV form body)).2.1.1, (parV (fileV form body)).2.1.2.1, ()) (by show l.length ≤ _; omega)
          have e9 : endOk (r, c, w, pl, ()) (form, l, ()) (fileV form body) = !((parV (fileV form body)).2.2 != 0 || (!sameP (r, c, w, pl, ()) (parV (fileV form body)).1 || !(form == (parV (fileV form body)).2.1.1 && l == (parV (fileV form body)).2.1.2.1))) := by
            unfold endOk
            simp only [Bool.not_or, Bool.not_not]
            congr 1
            cases h : (parV (fileV form body)).2.2 == 0 with
            | true => rw [beq_iff_eq.1 h]; rfl
            | false => rw [show ((parV (fileV form body)).2.2 != 0) = true by rw [bne_iff_ne]; exact beq_eq_false_iff_ne.1 h]; rfl
          have hen' := hen (fileV form body)
          change (Tr.run _) = _
          simp only [Tr.run_bind, Tr.run_br, Tr.run_ret, g1', g2, someBind, bifSome, bifOr2]
          cases hE : endOk (r, c, w, pl, ()) (form, l, ()) (fileV form body) with
          | false =>
            rw [hE] at e9
            have e9 := e9.symm
            rw [Bool.not_eq_false'] at e9
            rw [e9]
            cases decide (1 < ctL snV l) <;> rfl
          | true =>
            rw [hE] at e9
            have e9 := e9.symm
            rw [Bool.not_eq_true'] at e9
            rw [e9]
            cases hd : decide (1 < ctL snV l) with
            | true => have := hen' hd; rw [hE] at this; cases this
            | false => rfl
end Go.Proofs.Ytfblaicifdgfiaa.Dg
end

section
set_option linter.unusedVariables false
set_option linter.unusedSimpArgs false
set_option maxRecDepth 10000
namespace Go.LM
open Go Go.Proofs.Ytfblaicifdgfiaa.Dg
structure ParI (s : List UInt8) (p : PcmD) (a : AiD) : Prop where
  hd : hdB s = false
  len : s.length ≤ 67108864
  siz : beV ((s.drop 4).take 4) + 8 = s.length
  ch : (chs s).2 = 0
  ct : ctBad (chs s).1 = false
  cm : comE (commB (chs s).1) (isC s) = 0
  sb : sndBad (chs s).1 = false
  dl : (dataL (chs s).1).length = wantN (commB (chs s).1)
  un : (unpA s (chs s).1).2 = 0
  pp : p = (unpA s (chs s).1).1
  aa : a = ((s.drop 8).take 4, cutL (chs s).1, ())
theorem parV_of {s : List UInt8} {p : PcmD} {a : AiD} (h : ParI s p a) : parV s = (p, a, 0) := by
  obtain ⟨h1, h2, h3, h4, h5, h6, h7, h8, h9, h10, h11⟩ := h
  unfold parV parV2
  rw [h1, decide_eq_false (p := 67108864 < s.length) (by omega), decide_eq_false (p := beV ((s.drop 4).take 4) + 8 ≠ s.length) (by omega), h4, h5, h6, h7, h8, h9, h10, h11]
  simp only [bne_self_eq_false, cond_false]
theorem sameP_self (p : PcmD) : sameP p p = true := by unfold sameP; simp
theorem lay_ok {l : List ChunkD} (h : okL l = true) (h2 : l.length ≤ 1024) : layAll true l = (l.flatMap pc, 0) := by
  unfold layAll
  rw [decide_eq_false (by omega), cond_false, ← okL_lay l (fun k => ?_), h, cond_true, layL_flat]
  by_cases hk : k < l.length
  · exact (okC_iff.1 (okL_getD l k h hk)).2.1
  · rw [List.getD_eq_getElem?_getD, List.getElem?_eq_none (by omega)]; decide
end Go.LM
end

section
set_option linter.unusedVariables false
set_option linter.unusedSimpArgs false
set_option maxRecDepth 10000
namespace Go.LM
open Go Go.Proofs.Ytfblaicifdgfiaa.Dg
def z8 : List UInt8 := [0, 0, 0, 0, 0, 0, 0, 0]
def comP (C n W R : Nat) : List UInt8 := (leB C 2).reverse ++ (leB n 4).reverse ++ (leB W 2).reverse ++ rateV R
def plL (C n W R : Nat) : List ChunkD := [(coV, comP C n W R, 0, ()), (snV, z8, 0, ())]
def plnV (p : PcmD) : AiD := bif fitsV 2 p.1 p.2.1 p.2.2.1 p.2.2.2.1 != 0 then zAi else (afV, plL p.2.1.toNat (p.2.2.2.1.getD 0 []).length p.2.2.1.toNat p.1.toNat, ())
theorem comP_len (C n W R : Nat) : (comP C n W R).length = 18 := by simp [comP, leB, rateV_len]
theorem comP_parts (C n W R : Nat) : (comP C n W R).take 2 = (leB C 2).reverse ∧ ((comP C n W R).drop 2).take 4 = (leB n 4).reverse ∧ ((comP C n W R).drop 6).take 2 = (leB W 2).reverse ∧ ((comP C n W R).drop 8).take 10 = rateV R := by
  have a2 : ((leB C 2).reverse).length = 2 := by simp [leB]
  have a4 : ((leB n 4).reverse).length = 4 := by simp [leB]
  have a5 : ((leB W 2).reverse).length = 2 := by simp [leB]
  have a6 := rateV_len R
  unfold comP
  simp only [List.append_assoc]
  have d2 : ((leB C 2).reverse ++ ((leB n 4).reverse ++ ((leB W 2).reverse ++ rateV R))).drop 2 = (leB n 4).reverse ++ ((leB W 2).reverse ++ rateV R) := List.drop_left' a2
  have d6 : ((leB C 2).reverse ++ ((leB n 4).reverse ++ ((leB W 2).reverse ++ rateV R))).drop 6 = (leB W 2).reverse ++ rateV R := by
    rw [show 6 = 2 + 4 from rfl, ← List.drop_drop, d2]; exact List.drop_left' a4
  have d8 : ((leB C 2).reverse ++ ((leB n 4).reverse ++ ((leB W 2).reverse ++ rateV R))).drop 8 = rateV R := by
    rw [show 8 = 6 + 2 from rfl, ← List.drop_drop, d6]; exact List.drop_left' a5
  refine ⟨List.take_left' a2, ?_, ?_, ?_⟩
  · rw [d2]; exact List.take_left' a4
  · rw [d6]; exact List.take_left' a5
  · rw [d8]; exact List.take_of_length_le (by omega)
theorem comP_com (C n W R : Nat) (hC : 1 ≤ C ∧ C ≤ 8) (hn : n ≤ 1048576) (hW : W = 8 ∨ W = 16 ∨ W = 24 ∨ W = 32) (hR : 1 ≤ R ∧ R ≤ 655350) :
    comE (comP C n W R) false = 0 ∧ cmR (comP C n W R) = ((R : Int), 0) ∧ cmC (comP C n W R) = C ∧ cmN (comP C n W R) = n ∧ cmW (comP C n W R) = W := by
  obtain ⟨e1, e2, e3, e4⟩ := comP_parts C n W R
  have r : cmR (comP C n W R) = ((R : Int), 0) := by unfold cmR; rw [e4]; exact frV_rate hR.1 hR.2
  have c : cmC (comP C n W R) = C := by unfold cmC; rw [e1]; exact beV_leB _ _ (by omega)
  have m : cmN (comP C n W R) = n := by unfold cmN; rw [e2]; exact beV_leB _ _ (by omega)
  have w : cmW (comP C n W R) = W := by unfold cmW; rw [e3]; exact beV_leB _ _ (by omega)
  refine ⟨?_, r, c, m, w⟩
  unfold comE tlE
  rw [comP_len, r, c, m, w]
  simp only [cond_false, Bool.false_and, bne_self_eq_false]
  rw [show (C == 0) = false from beq_eq_false_iff_ne.2 (by omega), cond_false, decide_eq_false (by omega), cond_false, decide_eq_false (by omega), cond_false]
theorem plain_par (R C W : Nat) (pl : List (List Int)) (hp : PB pl) (hk : pcmOk (R : Int) (C : Int) (W : Int) pl = true) (h8 : W % 8 = 0) (n : Nat) (hn : n = (pl.getD 0 []).length) :
    parV (fileV afV ([((coV : List UInt8), comP C n W R, (0 : Int), ()), (snV, z8 ++ packV true false W pl, 0, ())].flatMap pc)) = (((R : Int), (C : Int), (W : Int), pl, ()), (afV, plL C n W R, ()), 0) ∧
    okL [((coV : List UInt8), comP C n W R, (0 : Int), ()), (snV, z8 ++ packV true false W pl, 0, ())] = true := by
  have hkk := okKind_iff (pcmOk_kind hk)
  have hN : n ≤ 1048576 := by have := hp.n2 0; omega
  obtain ⟨q1, q2, q3, q4, q5⟩ := comP_com C n W R (by omega) hN (by omega) (by omega)
  obtain ⟨_, _, _, _, _, _, _, _, hplC, _⟩ := pcmOk_parts hk
  have hplC : pl.length = C := by
    obtain ⟨W', C', e1, e2, _, _, _, _, e3, _⟩ := pcmOk_parts hk
    have : C = C' := by omega
    omega
  have hDl : (packV true false W pl).length = n * C * bwN W := by
    rw [pack_grid true false W pl C (by omega) hplC, flat_len _ (bwN W) (fun j => smpB_len _ _ _), hn]
  have hDle := pack_len true hp hk
  rw [Int.toNat_natCast] at hDle
  have hback := back1 (R : Int) C W pl true false hp hk
  generalize packV true false W pl = D at hDl hDle hback ⊢
  have hun : unpV true false (R : Int) C W (n * C) D = (((R : Int), (C : Int), (W : Int), pl, ()), 0) := by
    have := Unpack_ok D (R : Int) C W n true false (pcmOk_kind hk) hDl hN
    rw [this] at hback
    exact Option.some.inj hback
  have hL : okL [((coV : List UInt8), comP C n W R, (0 : Int), ()), (snV, z8 ++ D, 0, ())] = true := by
    unfold okL okL okL
    rw [Bool.and_eq_true, Bool.and_eq_true, okC_iff, okC_iff]
    refine ⟨⟨show nameV coV = true by decide, by simp only [comP_len]; omega, fun _ => rfl, fun _ => ⟨show (0 : Int) ≤ 255 by decide, .inl (show (0 : Int) ≤ 0 by decide)⟩⟩, ⟨show nameV snV = true by decide, ?_, fun _ => rfl, fun _ => ⟨show (0 : Int) ≤ 255 by decide, .inl (show (0 : Int) ≤ 0 by decide)⟩⟩, rfl⟩
    simp only [List.length_append, z8, List.length_cons, List.length_nil]; omega
  refine ⟨?_, hL⟩
  generalize hl : [((coV : List UInt8), comP C n W R, (0 : Int), ()), (snV, z8 ++ D, 0, ())] = l at hL
  have hll : l.length = 2 := by rw [← hl]; rfl
  have hsz : (l.flatMap pc).length ≤ 33555000 := by
    have := flat_sz l
    have h2 : szL l = 4 + 18 + (4 + (8 + D.length)) := by
      rw [← hl]
      simp only [szL, List.map_cons, List.map_nil, List.sum_cons, List.sum_nil, comP_len, List.length_append]
      simp only [coV, snV, z8, List.length_cons, List.length_nil]
      omega
    omega
  have hbl : ((leB ((l.flatMap pc).length + 4) 4).reverse).length = 4 := by rw [List.length_reverse, leB_len]
  generalize hs : fileV afV (l.flatMap pc) = s
  have hs1 : s = foV ++ ((leB ((l.flatMap pc).length + 4) 4).reverse ++ (afV ++ l.flatMap pc)) := by
    rw [← hs]; unfold fileV; simp only [List.append_eq, List.append_assoc]
  have t4 : s.take 4 = foV := by rw [hs1]; exact List.take_left' rfl
  have d4 : s.drop 4 = (leB ((l.flatMap pc).length + 4) 4).reverse ++ (afV ++ l.flatMap pc) := by rw [hs1]; exact List.drop_left' rfl
  have d8 : s.drop 8 = afV ++ l.flatMap pc := by rw [show 8 = 4 + 4 from rfl, ← List.drop_drop, d4]; exact List.drop_left' hbl
  have d12 : s.drop 12 = l.flatMap pc := by rw [show 12 = 8 + 4 from rfl, ← List.drop_drop, d8]; exact List.drop_left' rfl
  have t8 : (s.drop 8).take 4 = afV := by rw [d8]; exact List.take_left' rfl
  have hlen : s.length = 12 + (l.flatMap pc).length := by
    rw [hs1]; simp only [List.length_append, hbl]; simp only [foV, afV, List.length_cons, List.length_nil]; omega
  have hch : chs s = (l, 0) := by
    unfold chs
    rw [d12]
    exact chV_fwd l _ [] hL (Nat.lt_succ_self _) (by rw [hll]; decide)
  have hisC : isC s = false := by unfold isC; rw [t8]; rfl
  have hcoB : commB l = comP C n W R := by rw [← hl]; rfl
  have hsnB : sndB l = z8 ++ D := by rw [← hl]; rfl
  have hcS : ctL snV l = 1 := by rw [← hl]; rfl
  have hcC : ctL coV l = 1 := by rw [← hl]; rfl
  have hcut : sndCut l = 8 := by unfold sndCut; rw [hsnB]; rfl
  have hdat : dataL l = D := by unfold dataL; rw [hcS, hsnB, hcut]; rfl
  refine parV_of ⟨?_, by omega, ?_, by rw [hch], ?_, ?_, ?_, ?_, ?_, ?_, ?_⟩
  · unfold hdB
    rw [t4, t8, hisC, decide_eq_false (by omega)]; rfl
  · rw [d4, List.take_left' hbl, beV_leB _ _ (by omega)]; omega
  · rw [hch]; unfold ctBad; simp only; rw [hcC, hcS]; rfl
  · rw [hch, hisC]; simp only; rw [hcoB]; exact q1
  · rw [hch]; unfold sndBad; simp only; rw [hcS, hsnB, hcut, decide_eq_false (by simp only [List.length_append, z8, List.length_cons, List.length_nil]; omega)]; rfl
  · rw [hch]; simp only; rw [hdat, hcoB, hDl, (want_eq q1).1, q3, q4, q5]
  · rw [hch]; unfold unpA; simp only; rw [hcoB, hdat, hisC, q2, q3, q4, q5]; unfold cmBig; rw [cond_false]; simp only; rw [hun]
  · rw [hch]; unfold unpA; simp only; rw [hcoB, hdat, hisC, q2, q3, q4, q5]; unfold cmBig; rw [cond_false]; simp only; rw [hun]
  · rw [hch, t8]
    simp only
    unfold cutL
    rw [hcS, hsnB, hcut, ← hl]
    rfl
theorem plain_bld (r c w : Int) (pl : List (List Int)) (hp : PB pl) (h : fitsV 2 r c w pl = 0) : ∃ s, bldV (r, c, w, pl, ()) (plnV (r, c, w, pl, ())) = (s, 0) ∧ parV s = ((r, c, w, pl, ()), plnV (r, c, w, pl, ()), 0) ∧ s.take 4 = foV ∧ s = fileV afV ([((coV : List UInt8), comP c.toNat (pl.getD 0 []).length w.toNat r.toNat, (0 : Int), ()), (snV, z8 ++ packV true false w.toNat pl, 0, ())].flatMap pc) := by
  obtain ⟨hk, h8⟩ := fits2 h
  have hkk := okKind_iff (pcmOk_kind hk)
  obtain ⟨R, rfl⟩ : ∃ n : Nat, r = n := ⟨r.toNat, by omega⟩
  obtain ⟨C, rfl⟩ : ∃ n : Nat, c = n := ⟨c.toNat, by omega⟩
  obtain ⟨W, rfl⟩ : ∃ n : Nat, w = n := ⟨w.toNat, by omega⟩
  have hN : (pl.getD 0 []).length ≤ 1048576 := hp.n2 0
  obtain ⟨q1, q2, q3, q4, q5⟩ := comP_com C (pl.getD 0 []).length W R (by omega) hN (by omega) (by omega)
  have ha : plnV ((R : Int), (C : Int), (W : Int), pl, ()) = (afV, plL C (pl.getD 0 []).length W R, ()) := by
    unfold plnV; simp only; rw [h]; rfl
  obtain ⟨m1, m2⟩ := plain_par R C W pl hp hk (by omega) _ rfl
  rw [ha]
  simp only [Int.toNat_natCast]
  refine ⟨_, ?_, m1, ?_, rfl⟩
  · have hD : datP ((R : Int), (C : Int), (W : Int), pl, ()) (afV, plL C (pl.getD 0 []).length W R, ()) = packV true false W pl := by
      unfold datP
      simp only [Int.toNat_natCast]
      rw [show (afV == acV) = false from rfl]
      rfl
    have hadd : addL (plL C (pl.getD 0 []).length W R) (packV true false W pl) = [((coV : List UInt8), comP C (pl.getD 0 []).length W R, (0 : Int), ()), (snV, z8 ++ packV true false W pl, 0, ())] := rfl
    have hlay := lay_ok m2 (show 2 ≤ 1024 by decide)
    unfold bldV outV
    rw [hD]
    simp only
    rw [hadd, hlay, h]
    simp only [bne_self_eq_false, cond_false]
    have e1 : ctBad (plL C (pl.getD 0 []).length W R) = false := rfl
    have e2 : commB (plL C (pl.getD 0 []).length W R) = comP C (pl.getD 0 []).length W R := rfl
    have e3 : endOk ((R : Int), (C : Int), (W : Int), pl, ()) (afV, plL C (pl.getD 0 []).length W R, ()) (fileV afV ([((coV : List UInt8), comP C (pl.getD 0 []).length W R, (0 : Int), ()), (snV, z8 ++ packV true false W pl, 0, ())].flatMap pc)) = true := by
      unfold endOk
      rw [m1]
      simp only [beq_self_eq_true, sameP_self, Bool.and_self]
    rw [e1, e2, e3, show (afV == acV) = false from rfl, q1]
    rfl
  · unfold fileV
    simp only [List.append_eq, List.append_assoc]
    exact List.take_left' rfl
end Go.LM
namespace Go.Proofs.Ytfblaicifdgfiaa.Dg
open Go.LM
theorem Plain_eq (r c w : Int) (pl : List (List Int)) (hp : PB pl) : LQ.Plain (r, c, w, pl, ()) = some (plnV (r, c, w, pl, ())) := by
  unfold LQ.Plain LQ.Plain.t plnV
  dsimp only
  rw [Tr.run_bind, Fits_eq 2 r c w pl hp, someBind, Tr.run_br]
  cases h0 : fitsV 2 r c w pl != 0 with
  | true => rfl
  | false =>
    have h0 : fitsV 2 r c w pl = 0 := by simpa using h0
    obtain ⟨hk, h8⟩ := fits2 h0
    have hkk := okKind_iff (pcmOk_kind hk)
    obtain ⟨R, rfl⟩ : ∃ n : Nat, r = n := ⟨r.toNat, by omega⟩
    obtain ⟨C, rfl⟩ : ∃ n : Nat, c = n := ⟨c.toNat, by omega⟩
    obtain ⟨W, rfl⟩ : ∃ n : Nat, w = n := ⟨w.toNat, by omega⟩
    have hN : (pl.getD 0 []).length ≤ 1048576 := hp.n2 0
    have b1 : LQ.bytes_Be (C : Int) 2 = some ((leB C 2).reverse, 0) := bBe2_eq C 2 (by omega) (by omega) (by omega)
    have b2 : LQ.bytes_Be (((pl.getD 0 []).length : Nat) : Int) 4 = some ((leB (pl.getD 0 []).length 4).reverse, 0) := bBe2_eq _ 4 (by omega) (by omega) (by omega)
    have b3 : LQ.bytes_Be (W : Int) 2 = some ((leB W 2).reverse, 0) := bBe2_eq W 2 (by omega) (by omega) (by omega)
    have l2 : ∀ n, ((leB n 2).reverse).length = 2 := fun n => by simp [leB]
    have l4 : ∀ n, ((leB n 4).reverse).length = 4 := fun n => by simp [leB]
    rw [cond_false, cond_false, Tr.run_bind, pLen_eq, someBind]
    unfold lenV
    have hloop : loopO (fun (d : List UInt8 × Int × (Int × Int × Int × List (List Int)) × List UInt8 × List (List Int)) ↦ (LQ.Plain.l0 ((R : Int), (C : Int), (W : Int), pl, ()) (((pl.getD 0 []).length : Nat) : Int) d.fst d.snd.fst d.snd.snd.fst d.snd.snd.snd.fst d.snd.snd.snd.snd).run) ([], (0 : Int), ((R : Int), (C : Int), (W : Int), pl), [], [[(C : Int), 2], [(((pl.getD 0 []).length : Nat) : Int), 4], [(W : Int), 2]]) = some ((leB C 2).reverse ++ (leB (pl.getD 0 []).length 4).reverse ++ (leB W 2).reverse, ((R : Int), (C : Int), (W : Int), pl), []) := by
      have s0 : (LQ.Plain.l0 ((R : Int), (C : Int), (W : Int), pl, ()) (((pl.getD 0 []).length : Nat) : Int) [] 0 ((R : Int), (C : Int), (W : Int), pl) [] [[(C : Int), 2], [(((pl.getD 0 []).length : Nat) : Int), 4], [(W : Int), 2]]).run = some (.inl ((leB C 2).reverse, 1, ((R : Int), (C : Int), (W : Int), pl), [], [[(C : Int), 2], [(((pl.getD 0 []).length : Nat) : Int), 4], [(W : Int), 2]])) := by
        unfold LQ.Plain.l0
        rw [Tr.run_br]
        dsimp only
        rw [show decide ((0 : Int) < Int.ofNat _) = true from rfl, cond_true, Tr.run_need _ (by refine ⟨by decide, ?_⟩; show (0 : Int) < 3; decide), Tr.run_need _ (by decide), Tr.run_need _ (by decide), Tr.run_bind]
        refine (congrArg (fun o => Option.bind o _) b1).trans ?_
        rw [someBind, Tr.run_need _ (by simp only [l2]; decide)]
        rfl
      have s1 : (LQ.Plain.l0 ((R : Int), (C : Int), (W : Int), pl, ()) (((pl.getD 0 []).length : Nat) : Int) (leB C 2).reverse 1 ((R : Int), (C : Int), (W : Int), pl) [] [[(C : Int), 2], [(((pl.getD 0 []).length : Nat) : Int), 4], [(W : Int), 2]]).run = some (.inl ((leB C 2).reverse ++ (leB (pl.getD 0 []).length 4).reverse, 2, ((R : Int), (C : Int), (W : Int), pl), [], [[(C : Int), 2], [(((pl.getD 0 []).length : Nat) : Int), 4], [(W : Int), 2]])) := by
        unfold LQ.Plain.l0
        rw [Tr.run_br]
        dsimp only
        rw [show decide ((1 : Int) < Int.ofNat _) = true from rfl, cond_true, Tr.run_need _ (by refine ⟨by decide, ?_⟩; show (1 : Int) < 3; decide), Tr.run_need _ (by decide), Tr.run_need _ (by decide), Tr.run_bind]
        refine (congrArg (fun o => Option.bind o _) b2).trans ?_
        rw [someBind, Tr.run_need _ (by simp only [l2, l4]; decide)]
        rfl
      have s2 : (LQ.Plain.l0 ((R : Int), (C : Int), (W : Int), pl, ()) (((pl.getD 0 []).length : Nat) : Int) ((leB C 2).reverse ++ (leB (pl.getD 0 []).length 4).reverse) 2 ((R : Int), (C : Int), (W : Int), pl) [] [[(C : Int), 2], [(((pl.getD 0 []).length : Nat) : Int), 4], [(W : Int), 2]]).run = some (.inl ((leB C 2).reverse ++ (leB (pl.getD 0 []).length 4).reverse ++ (leB W 2).reverse, 3, ((R : Int), (C : Int), (W : Int), pl), [], [[(C : Int), 2], [(((pl.getD 0 []).length : Nat) : Int), 4], [(W : Int), 2]])) := by
        unfold LQ.Plain.l0
        rw [Tr.run_br]
        dsimp only
        rw [show decide ((2 : Int) < Int.ofNat _) = true from rfl, cond_true, Tr.run_need _ (by refine ⟨by decide, ?_⟩; show (2 : Int) < 3; decide), Tr.run_need _ (by decide), Tr.run_need _ (by decide), Tr.run_bind]
        refine (congrArg (fun o => Option.bind o _) b3).trans ?_
        rw [someBind, Tr.run_need _ (by simp only [List.length_append, l2, l4]; decide)]
        rfl
      rw [loopO_next s0, loopO_next s1, loopO_next s2]
      refine loopO_done ?_
      unfold LQ.Plain.l0
      rfl
    rw [Tr.run_bind]
    refine (congrArg (fun o => Option.bind o _) hloop).trans ?_
    rw [someBind]
    dsimp only
    have hr : LQ.Rate (R : Int) = some (rateV R, 0) := Rate_eq R (by omega) (by omega)
    rw [Tr.run_bind, hr, someBind]
    dsimp only
    rw [Tr.run_need _ (by simp only [List.length_append, l2, l4, rateV_len]; decide), Tr.run_bind, show LQ.RepeatT [0] 8 = some z8 from rfl, someBind]
    rfl
theorem rPlain_eq (r c w : Int) (pl : List (List Int)) (hp : PB pl) : LQ.r7_Plain (r, c, w, pl, ()) = some (plnV (r, c, w, pl, ())) := by
  unfold LQ.r7_Plain LQ.r7_Plain.t plnV
  dsimp only
  rw [Tr.run_bind, rFits_eq 2 r c w pl hp, someBind, Tr.run_br]
  cases h0 : fitsV 2 r c w pl != 0 with
  | true => rfl
  | false =>
    have h0 : fitsV 2 r c w pl = 0 := by simpa using h0
    obtain ⟨hk, h8⟩ := fits2 h0
    have hkk := okKind_iff (pcmOk_kind hk)
    obtain ⟨R, rfl⟩ : ∃ n : Nat, r = n := ⟨r.toNat, by omega⟩
    obtain ⟨C, rfl⟩ : ∃ n : Nat, c = n := ⟨c.toNat, by omega⟩
    obtain ⟨W, rfl⟩ : ∃ n : Nat, w = n := ⟨w.toNat, by omega⟩
    have hN : (pl.getD 0 []).length ≤ 1048576 := hp.n2 0
    have b1 : LQ.r2_Be (C : Int) 2 = some ((leB C 2).reverse, 0) := Be_eq C 2 (by omega) (by omega) (by omega) (fun _ => by omega)
    have b2 : LQ.r2_Be (((pl.getD 0 []).length : Nat) : Int) 4 = some ((leB (pl.getD 0 []).length 4).reverse, 0) := Be_eq _ 4 (by omega) (by omega) (by omega) (fun _ => by omega)
    have b3 : LQ.r2_Be (W : Int) 2 = some ((leB W 2).reverse, 0) := Be_eq W 2 (by omega) (by omega) (by omega) (fun _ => by omega)
    have l2 : ∀ n, ((leB n 2).reverse).length = 2 := fun n => by simp [leB]
    have l4 : ∀ n, ((leB n 4).reverse).length = 4 := fun n => by simp [leB]
    have hr : LQ.r2_Rate (R : Int) = some (rateV R, 0) := r2_Rate_eq R (by omega) (by omega)
    have hl : LQ.r5_Len ((R : Int), (C : Int), (W : Int), pl, ()) = some (((pl.getD 0 []).length : Nat) : Int) := rLen_eq _ _ _ _ _
    rw [cond_false, cond_false, Tr.run_bind, b1, someBind, Tr.run_bind, hl, someBind, Tr.run_bind, b2, someBind, Tr.run_bind, b3, someBind, Tr.run_bind, hr, someBind]
    dsimp only
    rw [Tr.run_need _ (by simp only [l2, l4]; decide), Tr.run_need _ (by simp only [List.append_eq, List.length_append, l2, l4]; decide), Tr.run_need _ (by simp only [List.append_eq, List.length_append, l2, l4, rateV_len]; decide)]
    rfl
end Go.Proofs.Ytfblaicifdgfiaa.Dg
end

section
set_option linter.unusedVariables false
set_option linter.unusedSimpArgs false
set_option maxRecDepth 10000
namespace Go.LM
open Go Go.Proofs.Ytfblaicifdgfiaa.Dg
end Go.LM
namespace Go.Proofs.Ytfblaicifdgfiaa.Dg
open Go.LM
theorem awake_true : LQ.awake07 = some true := by
  have hP := Plain_eq 44100 1 16 [[1, -1]] PB_two
  have hfit : fitsV 2 44100 1 16 [[1, -1]] = 0 := by decide
  obtain ⟨s, b1, b2, b3, b4⟩ := plain_bld 44100 1 16 [[1, -1]] PB_two hfit
  have ha : plnV (44100, 1, 16, [[1, -1]], ()) = (afV, plL 1 2 16 44100, ()) := by unfold plnV; simp only; rw [hfit]; rfl
  rw [ha] at hP b1 b2
  have hB := Build_eq 44100 1 16 [[1, -1]] afV (plL 1 2 16 44100) PB_two (by decide) (by
    have : szL (plL 1 2 16 44100) = 4 + (comP 1 2 16 44100).length + (4 + 8) := by simp only [szL, plL, List.map_cons, List.map_nil, List.sum_cons, List.sum_nil]; rfl
    rw [this, comP_len]; decide) (by decide)
  rw [b1] at hB
  have hpk : (packV true false 16 [[1, -1]]) = [0, 1, 255, 255] := by decide
  have hlen : s.length = 58 := by
    rw [b4]
    have e : ((16 : Int)).toNat = 16 := rfl
    rw [e, hpk]
    unfold fileV
    simp only [List.append_eq, List.length_append, List.flatMap_cons, List.flatMap_nil, List.length_nil, List.length_reverse, leB_len]
    have p1 : (pc ((coV : List UInt8), comP 1 2 16 44100, (0 : Int), ())).length = 26 := by
      unfold pc layV
      simp only [List.length_append, comP_len, toV_len]; rfl
    have p2 : (pc (snV, z8 ++ [0, 1, 255, 255], (0 : Int), ())).length = 20 := by decide
    change foV.length + 4 + afV.length + ((pc ((coV : List UInt8), comP 1 2 16 44100, (0 : Int), ())).length + ((pc (snV, z8 ++ [0, 1, 255, 255], (0 : Int), ())).length + 0)) = 58
    rw [p1, p2]; rfl
  have hS : LQ.Parse s = some ((44100, 1, 16, [[1, -1]], ()), (afV, plL 1 2 16 44100, ()), 0) := by rw [Parse_eq, b2]
  have hH : LQ.Parse [(104 : UInt8), (101 : UInt8), (108 : UInt8), (108 : UInt8), (111 : UInt8)] = some (zPcm, zAi, 3) := by rw [Parse_eq]; rfl
  have hT : LQ.Two 16 = some (44100, 1, 16, [[1, -1]], ()) := Two_eq 16
  have hs1 : LQ.r5_Same (44100, 1, 16, [[1, -1]], ()) (44100, 1, 16, [[1, -1]], ()) = some true := rSame_self 44100 1 16 [[1, -1]] () () PB_two.n1 PB_two.n2
  have hs2 : LQ.r7_Same (afV, plL 1 2 16 44100, ()) (afV, plL 1 2 16 44100, ()) = some true := by
    rw [Same7_eq _ _ (by decide)]; simp only [beq_self_eq_true, Bool.and_self]
  unfold LQ.awake07 LQ.awake07.t
  rw [Tr.run_bind, hT, someBind]
  dsimp only
  rw [Tr.run_bind, hP, someBind]
  dsimp only
  rw [Tr.run_bind, hB, someBind]
  dsimp only
  rw [Tr.run_bind, hS, someBind]
  dsimp only
  rw [Tr.run_bind, hH, someBind]
  dsimp only
  rw [Tr.run_bind, Tr.run_br, show ((0 : Int) == 0) = true from rfl, cond_true, Tr.run_br, cond_true, Tr.run_br, hlen, show (Int.ofNat 58 == 58) = true from rfl, cond_true, Tr.run_need _ (by decide), Tr.run_br, List.drop_zero, b3, show (foV == [(70 : UInt8), (79 : UInt8), (82 : UInt8), (77 : UInt8)]) = true from rfl, cond_true, Tr.run_bind, hs1, someBind, Tr.run_br, cond_true, Tr.run_bind, hs2, someBind, Tr.run_br, cond_true]
  rfl
theorem AiffBuilds_law (r c w : Int) (pl : List (List Int)) (form : List UInt8) (l : List ChunkD) (hp : PB pl) (hl : l.length ≤ 1048576) (hsz : szL l ≤ 2097152) (hfl : form.length ≤ 1048576) :
    LQ.AiffBuilds (r, c, w, pl, ()) (form, l, ()) = some true := by
  have h1 := Build_eq r c w pl form l hp hl hsz hfl
  have h2 := rBuild_eq r c w pl form l hp hl hsz hfl
  have h3 := Plain_eq r c w pl hp
  have h4 := rPlain_eq r c w pl hp
  have h5 : LQ.r7_Same (plnV (r, c, w, pl, ())) (plnV (r, c, w, pl, ())) = some true := by
    rw [Same7_eq _ _ (by unfold plnV; cases fitsV 2 (r, c, w, pl, ()).1 (r, c, w, pl, ()).2.1 (r, c, w, pl, ()).2.2.1 (r, c, w, pl, ()).2.2.2.1 != 0; exact (show 2 ≤ 1099511627776 by decide); exact (show 0 ≤ 1099511627776 by decide))]
    simp only [beq_self_eq_true, Bool.and_self]
  unfold LQ.AiffBuilds LQ.AiffBuilds.t
  dsimp only
  simp only [Tr.run_bind, Tr.run_br, Tr.run_ret, h1, h2, h3, h4, h5, someBind, beq_self_eq_true, cond_true, awake_true]
end Go.Proofs.Ytfblaicifdgfiaa.Dg
end

