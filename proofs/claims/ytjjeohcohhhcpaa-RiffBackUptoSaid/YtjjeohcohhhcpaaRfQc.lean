/- RfQc: RfX RfX2 RfX3 RfY. -/
import Derived.Test.YtjjeohcohhhcpaaRfQb
import Derived.Test.YtjjeohcohhhcpaaRfQa
import Derived.Test.YtjjeohcohhhcpaaRfMa
section
/- 'Build'. -/
set_option linter.unusedVariables false
set_option linter.unusedSimpArgs false
namespace Go.Proofs.Ytjjeohcohhhcpaa.Dg
open Go.LM
theorem lay_all (id body : List UInt8) (pad : Int) (last : Bool) (b : List UInt8) (h1 : body.length ≤ 1073741824) (h2 : id.length ≤ 1073741824) (h3 : b.length ≤ 1099511627776) (h4 : layBad last id body.length pad = false) :
    LQ.lay ((id, body, pad, ()), false, last, [255, 255, 255, 255]) b = some (true, b ++ (id ++ ([255, 255, 255, 255] ++ (body ++ (bif body.length % 2 == 1 && decide (pad ≥ 0) then [UInt8.ofNat (pad % 256).toNat] else []))))) := by
  have hN := name_eq id (by omega)
  unfold LQ.lay LQ.lay.t
  unfold layBad leastV mostV at h4
  simp only [Int.ofNat_eq_natCast, odd_eq, Tr.run_bind, Tr.run_br, Tr.run_ret]
  cases hodd : (body.length % 2 == 1) <;> cases last <;> cases hnm : nameV id <;> simp only [hodd, hnm, cond_true, cond_false, Option.bind_some, hN, hnm, Bool.not_true, Bool.not_false, Bool.true_or, Bool.false_or, Bool.or_eq_false_iff, decide_eq_false_iff_not] at h4 ⊢ <;> (try (exfalso; cases h4; done)) <;>
    (simp only [decide_eq_false h4.1, decide_eq_false h4.2, cond_false, someBind, show (([255, 255, 255, 255] : List UInt8) == []) = false from rfl, show decide ((0 : Int) > 0) = false from rfl, show decide ((255 : Int) > 0) = true from rfl, cond_true]
     rw [Tr.run_need _ (by omega), Tr.run_need _ (by simp only [List.length_append, List.length_cons, List.length_nil]; omega), Tr.run_need _ (by simp only [List.length_append, List.length_cons, List.length_nil]; omega), Tr.run_bind, someBind, Tr.run_bind]
     by_cases q0 : pad ≥ 0 <;> simp only [q0, decide_true, decide_false, cond_true, cond_false, Bool.true_and, Bool.false_and, someBind, Tr.run_ret, Tr.run_bind] <;> first
      | (simp [Tr.run]; done)
      | (rw [Tr.run_need _ (by simp only [List.length_append, List.length_cons, List.length_nil, List.length_set, List.length_replicate]; omega)]; simp [Tr.run]; done))
end Go.Proofs.Ytjjeohcohhhcpaa.Dg
end

section
/- 'Build' lays what 'Parse' takes apart. -/
set_option linter.unusedVariables false
set_option linter.unusedSimpArgs false
namespace Go.LM
open Go.Proofs.Ytjjeohcohhhcpaa.Dg
theorem OkC_lay {D : List UInt8} {last : Prop} {c : ChunkD} (lb : Bool) (hl : last → lb = true) (h : OkC D last c) : layBad lb c.1 (bodyC D c).length c.2.2.1 = false := by
  obtain ⟨h1, h2, h3, h4, h5⟩ := h
  unfold layBad leastV mostV
  rw [h1]
  by_cases ho : (bodyC D c).length % 2 = 1
  · rw [show ((bodyC D c).length % 2 == 1) = true from beq_iff_eq.2 ho, cond_true, cond_true]
    rcases h4 ho with ⟨a, b⟩ | ⟨a, b⟩
    · rw [decide_eq_false (p := c.2.2.1 > 255) (by omega)]
      cases lb
      · rw [cond_false, decide_eq_false (by omega)]; rfl
      · rw [cond_true, decide_eq_false (by omega)]; rfl
    · rw [hl b, a]; rfl
  · have he : (bodyC D c).length % 2 = 0 := by omega
    rw [show ((bodyC D c).length % 2 == 1) = false from beq_eq_false_iff_ne.2 (by omega), cond_false, cond_false, h3 he]; rfl
theorem OkC_pad {D : List UInt8} {last : Prop} {c : ChunkD} (h : OkC D last c) : (bif (bodyC D c).length % 2 == 1 && decide (c.2.2.1 ≥ 0) then [UInt8.ofNat (c.2.2.1 % 256).toNat] else []) = padC D c := by
  obtain ⟨h1, h2, h3, h4, h5⟩ := h
  unfold padC
  by_cases ho : (bodyC D c).length % 2 = 1
  · rcases h4 ho with ⟨a, b⟩ | ⟨a, b⟩
    · rw [show c.2.2.1 % 256 = c.2.2.1 by omega]
    · rw [a, show decide ((-1 : Int) ≥ 0) = false from rfl, Bool.and_false]; rfl
  · rw [show ((bodyC D c).length % 2 == 1) = false from beq_eq_false_iff_ne.2 ho]; rfl
end Go.LM
namespace Go.Proofs.Ytjjeohcohhhcpaa.Dg
open Go.LM
theorem eqCh_self (a : List ChunkD) (h : a.length ≤ 1099511627776) : LQ.eqChunks a a = some true := SameCh_self a h

theorem lay_pc {D : List UInt8} {last : Prop} {c : ChunkD} {rf lb : Bool} {b : List UInt8} (hl : last → lb = true) (h : OkC D last c) (h1 : (bodyC D c).length ≤ 1073741824) (h3 : b.length ≤ 1099511627776) :
    LQ.lay ((c.1, bodyC D c, c.2.2.1, ()), false, lb, bif rf && c.1 == daV then [255, 255, 255, 255] else []) b = some (true, b ++ pcC rf D c) := by
  have hb := OkC_lay lb hl h
  have hn := nameV_len h.1
  have hp := OkC_pad h
  unfold pcC hdrC
  cases hr : (rf && c.1 == daV) with
  | true =>
    rw [cond_true, cond_true, lay_all c.1 (bodyC D c) c.2.2.1 lb b h1 (by omega) h3 hb, hp]
    simp
  | false =>
    rw [cond_false, cond_false, lay_eq c.1 (bodyC D c) c.2.2.1 false lb b h1 (by omega) h3, hb, cond_false]
    unfold layV toV
    rw [hp]
    simp

theorem build_step (b0 : Bool) (x0 x : Int × Int × Int × List (List Int)) (form : List UInt8) (sk : List ChunkD) (D : List UInt8) (e0 : Int) (i : Nat) (buf : List UInt8) (hi : i < sk.length) (hn : sk.length ≤ 1024)
    (ho : OkC D (i + 1 = sk.length) (sk.getD i zCh)) (hD : (bodyC D (sk.getD i zCh)).length ≤ 67108864) (hb : (buf ++ pcC (form == rfV) D (sk.getD i zCh)).length ≤ 268435456) :
    (LQ.Build.l0 (b0, x0, form, sk) (D, e0) (i : Int) x (form, sk) buf).run = some (.inl (((i + 1 : Nat) : Int), x, (form, sk), buf ++ pcC (form == rfV) D (sk.getD i zCh))) := by
  have hlb : ((i : Int) == w64 (Int.ofNat sk.length - 1)) = decide (i + 1 = sk.length) := by
    rw [Int.ofNat_eq_natCast, w64_id (by omega), Bool.eq_iff_iff, beq_iff_eq, decide_eq_true_eq]; omega
  have hlay := lay_pc (rf := form == rfV) (lb := decide (i + 1 = sk.length)) (b := buf) (fun h => decide_eq_true h) ho (by omega) (by rw [List.length_append] at hb; omega)
  have hda := ho.2.2.2.2
  unfold LQ.Build.l0
  simp only [Tr.run_bind, Tr.run_br, Tr.run_ret, someBind, bifSome, bifPair, bifSame, bifOr1, bifOr2, bifAnd, bifNot, Int.toNat_natCast]
  rw [decide_eq_true (by simp only [Int.ofNat_eq_natCast]; omega), cond_true, Tr.run_need _ (by simp only [Int.ofNat_eq_natCast]; omega), Tr.run_bind, someBind]
  have hz : sk.getD i ([], [], 0, ()) = sk.getD i zCh := rfl
  rw [hz]
  generalize sk.getD i zCh = c at *
  obtain ⟨id, body, pad, u⟩ := c
  simp only at hda hlay hb ⊢
  have fin : ∀ (B W : List UInt8), LQ.lay ((id, B, pad, ()), false, decide (i + 1 = sk.length), W) buf = some (true, buf ++ pcC (form == rfV) D (id, body, pad, u)) → (Tr.cs (List UInt8 × Int) (List UInt8 × (Int × Int × Int × List (List Int)) × (List UInt8 × List ChunkD) × List UInt8 × List UInt8 × List UInt8 × Int) (.inr (W, x, (form, sk), buf, id, B, pad)) ([], 0) ([], (0, 0, 0, []), ([], []), [], [], [], 0)
      (fun r6 => Tr.ret (Sum.inr (Sum.inl (r6.1, r6.2)) : (Int × (Int × Int × Int × List (List Int)) × (List UInt8 × List ChunkD) × List UInt8) ⊕ (List UInt8 × Int) ⊕ ((Int × Int × Int × List (List Int)) × (List UInt8 × List ChunkD) × List UInt8)))
      fun r7 => Tr.bind (Bool × List UInt8) (LQ.lay ((r7.2.2.2.2.1, r7.2.2.2.2.2.1, r7.2.2.2.2.2.2, ()), false, (i : Int) == w64 (Int.ofNat r7.2.2.1.2.length - 1), r7.1) r7.2.2.2.1) (false, []) fun r8 =>
        Tr.bind (Bool × (Int × Int × Int × List (List Int)) × (List UInt8 × List ChunkD) × List UInt8) (some (!r8.1 || decide (Int.ofNat r8.2.length > 268435456), r7.2.1, r7.2.2.1, r8.2)) (false, (0, 0, 0, []), ([], []), []) fun r9 =>
          Tr.br r9.1 (Tr.ret (Sum.inr (Sum.inl ([], 60)))) (Tr.ret (Sum.inl (w64 ((i : Int) + 1), r9.2.1, r9.2.2.1, r9.2.2.2)))).run = some (.inl (((i + 1 : Nat) : Int), x, (form, sk), buf ++ pcC (form == rfV) D (id, body, pad, u))) := fun B W h => by
    rw [Tr.run_csr, Tr.run_bind]
    simp only [hlb]
    rw [h, someBind, Tr.run_bind, someBind, Tr.run_br]
    simp only [Bool.not_true, Bool.false_or]
    rw [decide_eq_false (by simp only [Int.ofNat_eq_natCast]; omega), cond_false, Tr.run_ret, w64_id (by omega)]
    rfl
  cases hc : (id == [100, 97, 116, 97]) with
  | true =>
    have hid : id = daV := beq_iff_eq.1 hc
    obtain rfl : body = [] := hda hid
    have := fin D (bif form == [82, 70, 54, 52] then [255, 255, 255, 255] else []) (by
      rw [← hlay]
      unfold bodyC
      simp only [hid, beq_self_eq_true, Bool.and_true, cond_true]
      rfl)
    exact this
  | false =>
    have hid : (id == daV) = false := hc
    have := fin body [] (by
      rw [← hlay]
      unfold bodyC
      simp only [hid, Bool.and_false, cond_false])
    exact this
end Go.Proofs.Ytjjeohcohhhcpaa.Dg
end

section
/- 'Build', and RiffBack. -/
set_option linter.unusedVariables false
set_option linter.unusedSimpArgs false
namespace Go.LM
open Go.Proofs.Ytjjeohcohhhcpaa.Dg
theorem fm_take {β : Type} (sk : List ChunkD) (f : ChunkD → List β) (k : Nat) (hk : k < sk.length) : (sk.take (k + 1)).flatMap f = (sk.take k).flatMap f ++ f (sk.getD k zCh) := by
  rw [List.take_add_one, List.getElem?_eq_getElem hk, getD_lt _ _ hk, List.flatMap_append]
  simp
theorem fm_le {β : Type} (sk : List ChunkD) (f : ChunkD → List β) (k : Nat) : ((sk.take k).flatMap f).length ≤ (sk.flatMap f).length := by
  conv => rhs; rw [← List.take_append_drop k sk, List.flatMap_append, List.length_append]
  omega
end Go.LM
namespace Go.Proofs.Ytjjeohcohhhcpaa.Dg
open Go.LM
theorem Build_run (r c W : Int) (pl : List (List Int)) (form : List UInt8) (sk : List ChunkD) (D s : List UInt8) (hfit : LQ.pcm_Fits 1 (r, c, W, pl, ()) = some 0) (hform : form = riV ∨ form = rfV) (hn : sk.length ≤ 1024)
    (hpack : LQ.pcm_Pack (r, c, W, pl, ()) (false, W == 8, ()) = some (D, 0)) (hok : ∀ i (h : i < sk.length), OkC D (i + 1 = sk.length) sk[i])
    (hs : s = form ++ (bif form == rfV then allV else leB (waV ++ sk.flatMap (pcC (form == rfV) D)).length 4) ++ (waV ++ sk.flatMap (pcC (form == rfV) D))) (hlen : s.length ≤ 67108864)
    (hP : LQ.Parse s = some ((r, c, W, pl, ()), (form, sk, ()), 0)) (hsame : LQ.pcm_Same (r, c, W, pl, ()) (r, c, W, pl, ()) = some true) : LQ.Build (r, c, W, pl, ()) (form, sk, ()) = some (s, 0) := by
  have hB : (waV ++ sk.flatMap (pcC (form == rfV) D)).length ≤ s.length := by
    rw [hs]
    generalize waV ++ sk.flatMap (pcC (form == rfV) D) = B
    simp only [List.length_append]; omega
  have hsk : (sk.flatMap (pcC (form == rfV) D)).length ≤ 67108864 := by rw [List.length_append] at hB; omega
  have hloop := loopO_steps (f := fun (d : Int × (Int × Int × Int × List (List Int)) × (List UInt8 × List ChunkD) × List UInt8) ↦ (LQ.Build.l0 (false, (r, c, W, pl), form, sk) (D, 0) d.fst d.snd.fst d.snd.snd.fst d.snd.snd.snd).run)
    (fun k => ((k : Int), (r, c, W, pl), (form, sk), waV ++ (sk.take k).flatMap (pcC (form == rfV) D))) (r := .inr ((r, c, W, pl), (form, sk), waV ++ sk.flatMap (pcC (form == rfV) D))) sk.length (fun k hk => by
      have hle := fm_le sk (pcC (form == rfV) D) (k + 1)
      rw [fm_take _ _ k hk, List.length_append] at hle
      have hpc : (bodyC D (sk.getD k zCh)).length ≤ (pcC (form == rfV) D (sk.getD k zCh)).length := by
        unfold pcC
        simp only [List.length_append]
        omega
      have := build_step false (r, c, W, pl) (r, c, W, pl) form sk D 0 k (waV ++ (sk.take k).flatMap (pcC (form == rfV) D)) hk hn (by rw [getD_lt _ _ hk]; exact hok k hk) (by omega) (by have h4 : waV.length = 4 := rfl; simp only [List.length_append]; omega)
      rw [this, fm_take _ _ k hk, List.append_assoc]) (by
      simp only [List.take_length]
      unfold LQ.Build.l0
      rw [Tr.run_br, decide_eq_false (by simp only [Int.ofNat_eq_natCast]; omega), cond_false, Tr.run_ret])
  simp only [List.take_zero, List.flatMap_nil, List.append_nil] at hloop
  have hc : (bif !form == [82, 73, 70, 70] then !form == [82, 70, 54, 52] || decide (Int.ofNat sk.length > 1024) else decide (Int.ofNat sk.length > 1024)) = false := by
    rw [decide_eq_false (by simp only [Int.ofNat_eq_natCast]; omega)]
    rcases hform with rfl | rfl <;> decide
  have hlay : LQ.layout W = some (false, W == 8, ()) := rfl
  have hleB : (form == rfV) = false → LQ.bytes_Le (Int.ofNat (waV ++ sk.flatMap (pcC (form == rfV) D)).length) 4 = some (leB (waV ++ sk.flatMap (pcC (form == rfV) D)).length 4, 0) := fun _ => bLe_eq _ (by omega)
  unfold LQ.Build LQ.Build.t
  simp only [Tr.run_bind, Tr.run_br, Tr.run_ret, someBind, bifSome, bifPair, bifSame, bifOr1, bifOr2, bifAnd, bifNot, hfit, hc, hlay, hpack, bne_self_eq_false, cond_false]
  refine (congrArg (fun o => Option.bind o _) hloop).trans ?_
  rw [someBind, Tr.run_csr, Tr.run_bind]
  have hsz : (bif form == [82, 73, 70, 70] then (LQ.bytes_Le (Int.ofNat (waV ++ sk.flatMap (pcC (form == rfV) D)).length) 4).bind fun b => some (b.1, (r, c, W, pl), (form, sk), waV ++ sk.flatMap (pcC (form == rfV) D)) else some ([255, 255, 255, 255], (r, c, W, pl), (form, sk), waV ++ sk.flatMap (pcC (form == rfV) D))) =
      some ((bif form == rfV then allV else leB (waV ++ sk.flatMap (pcC (form == rfV) D)).length 4), (r, c, W, pl), (form, sk), waV ++ sk.flatMap (pcC (form == rfV) D)) := by
    rcases hform with rfl | rfl
    · rw [show (riV == ([82, 73, 70, 70] : List UInt8)) = true from rfl, cond_true, hleB rfl]; rfl
    · rfl
  refine (congrArg (fun o => Option.bind o _) hsz).trans ?_
  rw [someBind]
  have hs' : (form.append (bif form == rfV then allV else leB (waV ++ sk.flatMap (pcC (form == rfV) D)).length 4)).append (waV ++ sk.flatMap (pcC (form == rfV) D)) = s := hs.symm
  have hl1 : form.length ≤ s.length := by rw [hs]; simp only [List.length_append]; omega
  have hl2 : (form.append (bif form == rfV then allV else leB (waV ++ sk.flatMap (pcC (form == rfV) D)).length 4)).length ≤ s.length := by rw [hs]; show (form ++ _).length ≤ _; simp only [List.length_append]; omega
  have hl3 : form.length + (bif form == rfV then allV else leB (waV ++ sk.flatMap (pcC (form == rfV) D)).length 4).length ≤ s.length := by rw [hs]; simp only [List.length_append]; omega
  rw [Tr.run_need _ (by simp only; omega), Tr.run_need _ (by simp only; omega), Tr.run_br]
  simp only [hs']
  rw [decide_eq_false (by simp only [Int.ofNat_eq_natCast]; omega), cond_false, Tr.run_bind, hP, someBind, Tr.run_bind]
  have hq := eqCh_self sk (by omega)
  simp only [bne_self_eq_false, cond_false, hsame, hq, someBind, Bool.not_true, beq_self_eq_true, Tr.run_br, Tr.run_ret]
end Go.Proofs.Ytjjeohcohhhcpaa.Dg
namespace Go.LM
open Go.Proofs.Ytjjeohcohhhcpaa.Dg
theorem head_split {s : List UInt8} (h : 12 ≤ s.length) : s = s.take 4 ++ (s.drop 4).take 4 ++ ((s.drop 8).take 4 ++ s.drop 12) := by
  rw [show s.drop 12 = (s.drop 8).drop 4 by rw [List.drop_drop], List.take_append_drop, List.append_assoc, show s.drop 8 = (s.drop 4).drop 4 by rw [List.drop_drop], List.take_append_drop, List.take_append_drop]
end Go.LM
namespace Go.Proofs.Ytjjeohcohhhcpaa.Dg
open Go.LM
theorem Build_parsed {s : List UInt8} (hs : s.length ≤ 1048576) {p : PcmD} {w : List UInt8 × List ChunkD × PUnit} (h1 : LQ.Parse s = some (p, w, 0)) {R : RdD} {b : List UInt8} {q : Nat} (hp : Parsed s p w R b q) : LQ.Build p w = some (s, 0) := by
  obtain ⟨hh, hI, hf, hok, hg, hlen, hq, hall, hpcm⟩ := hp
  obtain ⟨form, sk, u⟩ := w
  simp only at hf hI
  subst hpcm hf
  have hk := fmt_kind hok
  have bd := fmtOK_bd hok
  obtain ⟨g1, g2, g3⟩ := up_good _ _ _ _ q hk hq hall
  have hpk := back2 R.2.2.2.2.2.2 _ _ _ q false _ hk hlen hq hall
  obtain ⟨h12, hwa, hfm⟩ := hh
  have hsp := head_split h12
  have htx := hI.txt
  rw [List.append_nil] at htx
  have hB : (waV ++ sk.flatMap (pcC (s.take 4 == rfV) R.2.2.2.2.2.2)).length + 8 = s.length := by
    rw [← htx, ← hwa, show s.drop 12 = (s.drop 8).drop 4 by rw [List.drop_drop], List.take_append_drop, List.length_drop]; omega
  refine Build_run _ _ _ _ (s.take 4) sk R.2.2.2.2.2.2 s ?_ ?_ hI.num hpk (fun i hi => (hI.oks i hi).mono fun x => x.1) ?_ (by omega) h1 ?_
  · rw [Fits_eq _ _ _ _ _ g1]
    unfold fitsV
    have e : ((pieceL b 14 2 : Nat) : Int) % 8 = 0 := by have := bd.2.2.2.2.2.2; omega
    rw [g2, decide_eq_true e]; rfl
  · rcases hfm with ⟨a, _⟩ | ⟨a, _⟩
    · exact .inr a
    · exact .inl a
  · conv => lhs; rw [hsp]
    rw [hwa, ← htx]
    congr 2
    rcases hfm with ⟨a, b⟩ | ⟨a, b⟩
    · rw [a, b]; rfl
    · rw [show (s.take 4 == rfV) = false by rw [a]; rfl, cond_false]
      have hl4 : ((s.drop 4).take 4).length = 4 := by rw [List.length_take, List.length_drop]; omega
      have := leB_leV ((s.drop 4).take 4)
      rw [hl4] at this
      rw [← this]
      congr 1
      rw [← htx] at hB
      have e : leV ((s.drop 4).take 4) = pieceL s 4 4 := rfl
      omega
  · exact pSame_self _ _ _ _ () () g1.n1 g1.n2
end Go.Proofs.Ytjjeohcohhhcpaa.Dg
end

section
set_option linter.unusedVariables false
set_option linter.unusedSimpArgs false
namespace Go.Proofs.Ytjjeohcohhhcpaa.Dg
open Go.LM
theorem RiffBack_law (s : List UInt8) (hs : s.length ≤ 1048576) : LQ.RiffBack s = some true := by
  obtain ⟨p, w, e, h1, h2, h3⟩ := Parse_all s hs
  unfold LQ.RiffBack LQ.RiffBack.t
  rw [Tr.run_bind, h1, someBind, Tr.run_br]
  by_cases he : e = 0
  · subst he
    obtain ⟨R, b, q, hp⟩ := h3 rfl
    have hb := Build_parsed hs h1 hp
    simp only [bne_self_eq_false, cond_false]
    rw [Tr.run_bind]
    refine (congrArg (fun o => Option.bind o _) hb).trans ?_
    rw [someBind, Tr.run_bind, Tr.run_br, Tr.run_br, beq_self_eq_true, beq_self_eq_true]
    rfl
  · obtain ⟨rfl, rfl⟩ := h2 he
    simp only [show (e != 0) = true from bne_iff_ne.2 he, cond_true]
    rfl
end Go.Proofs.Ytjjeohcohhhcpaa.Dg
end

