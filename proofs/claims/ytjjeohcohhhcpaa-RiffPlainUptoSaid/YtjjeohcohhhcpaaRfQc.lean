/- RfQc: RfX RfX2 RfX3 RfAa RfAb RfAc. -/
import Derived.Test.YtjjeohcohhhcpaaRfQb
import Derived.Test.YtjjeohcohhhcpaaRfQa
import Derived.Test.YtjjeohcohhhcpaaRfMa
section
/- 'Build'. -/
set_option linter.unusedVariables false
set_option linter.unusedSimpArgs false
namespace Go.Proofs.Ytjjeohcohhhcpaa.Dg
open Go.LM
theorem lay_all (id body : List UInt8) (pad : Int) (last : Bool) (b : List UInt8) (h1 : body.length ≤ 1073741824) (h2 : id.length ≤ 1073741824) (h3 : b.length ≤ 1099511627776) (h4 : layBad last id body.length pad = false) :
    LQ.lay ((id, body, pad, ()), false, last, [255, 255, 255, 255]) b = some (true, b ++ (id ++ ([255, 255, 255, 255] ++ (body ++ (bif body.length % 2 == 1 && decide (pad ≥ 0) then [UInt8.ofNat (pad % 256).toNat] else []))))) := by
  have hN := name_eq id (by omega)
  unfold LQ.lay LQ.lay.t
  unfold layBad leastV mostV at h4
  simp only [Int.ofNat_eq_natCast, odd_eq, Tr.run_bind, Tr.run_br, Tr.run_ret]
  cases hodd : (body.length % 2 == 1) <;> cases last <;> cases hnm : nameV id <;> simp only [hodd, hnm, cond_true, cond_false, Option.bind_some, hN, hnm, Bool.not_true, Bool.not_false, Bool.true_or, Bool.false_or, Bool.or_eq_false_iff, decide_eq_false_iff_not] at h4 ⊢ <;> (try (exfalso; cases h4; done)) <;>
    (simp only [decide_eq_false h4.1, decide_eq_false h4.2, cond_false, someBind, show (([255, 255, 255, 255] : List UInt8) == []) = false from rfl, show decide ((0 : Int) > 0) = false from rfl, show decide ((255 : Int) > 0) = true from rfl, cond_true]
     rw [Tr.run_need _ (by omega), Tr.run_need _ (by simp only [List.length_append, List.length_cons, List.length_nil]; omega), Tr.run_need _ (by simp only [List.length_append, List.length_cons, List.length_nil]; omega), Tr.run_bind, someBind, Tr.run_bind]
     by_cases q0 : pad ≥ 0 <;> simp only [q0, decide_true, decide_false, cond_true, cond_false, Bool.true_and, Bool.false_and, someBind, Tr.run_ret, Tr.run_bind] <;> first
      | (simp [Tr.run]; done)
      | (rw [Tr.run_need _ (by simp only [List.length_append, List.length_cons, List.length_nil, List.length_set, List.length_replicate]; omega)]; simp [Tr.run]; done))
end Go.Proofs.Ytjjeohcohhhcpaa.Dg
end

section
/- 'Build' lays what 'Parse' takes apart. -/
set_option linter.unusedVariables false
set_option linter.unusedSimpArgs false
namespace Go.LM
open Go.Proofs.Ytjjeohcohhhcpaa.Dg
theorem OkC_lay {D : List UInt8} {last : Prop} {c : ChunkD} (lb : Bool) (hl : last → lb = true) (h : OkC D last c) : layBad lb c.1 (bodyC D c).length c.2.2.1 = false := by
  obtain ⟨h1, h2, h3, h4, h5⟩ := h
  unfold layBad leastV mostV
  rw [h1]
  by_cases ho : (bodyC D c).length % 2 = 1
  · rw [show ((bodyC D c).length % 2 == 1) = true from beq_iff_eq.2 ho, cond_true, cond_true]
    rcases h4 ho with ⟨a, b⟩ | ⟨a, b⟩
    · rw [decide_eq_false (p := c.2.2.1 > 255) (by omega)]
      cases lb
      · rw [cond_false, decide_eq_false (by omega)]; rfl
      · rw [cond_true, decide_eq_false (by omega)]; rfl
    · rw [hl b, a]; rfl
  · have he : (bodyC D c).length % 2 = 0 := by omega
    rw [show ((bodyC D c).length % 2 == 1) = false from beq_eq_false_iff_ne.2 (by omega), cond_false, cond_false, h3 he]; rfl
theorem OkC_pad {D : List UInt8} {last : Prop} {c : ChunkD} (h : OkC D last c) : (bif (bodyC D c).length % 2 == 1 && decide (c.2.2.1 ≥ 0) then [UInt8.ofNat (c.2.2.1 % 256).toNat] else []) = padC D c := by
  obtain ⟨h1, h2, h3, h4, h5⟩ := h
  unfold padC
  by_cases ho : (bodyC D c).length % 2 = 1
  · rcases h4 ho with ⟨a, b⟩ | ⟨a, b⟩
    · rw [show c.2.2.1 % 256 = c.2.2.1 by omega]
    · rw [a, show decide ((-1 : Int) ≥ 0) = false from rfl, Bool.and_false]; rfl
  · rw [show ((bodyC D c).length % 2 == 1) = false from beq_eq_false_iff_ne.2 ho]; rfl
end Go.LM
namespace Go.Proofs.Ytjjeohcohhhcpaa.Dg
open Go.LM
theorem eqCh_self (a : List ChunkD) (h : a.length ≤ 1099511627776) : LQ.eqChunks a a = some true := SameCh_self a h

theorem lay_pc {D : List UInt8} {last : Prop} {c : ChunkD} {rf lb : Bool} {b : List UInt8} (hl : last → lb = true) (h : OkC D last c) (h1 : (bodyC D c).length ≤ 1073741824) (h3 : b.length ≤ 1099511627776) :
    LQ.lay ((c.1, bodyC D c, c.2.2.1, ()), false, lb, bif rf && c.1 == daV then [255, 255, 255, 255] else []) b = some (true, b ++ pcC rf D c) := by
  have hb := OkC_lay lb hl h
  have hn := nameV_len h.1
  have hp := OkC_pad h
  unfold pcC hdrC
  cases hr : (rf && c.1 == daV) with
  | true =>
    rw [cond_true, cond_true, lay_all c.1 (bodyC D c) c.2.2.1 lb b h1 (by omega) h3 hb, hp]
    simp
  | false =>
    rw [cond_false, cond_false, lay_eq c.1 (bodyC D c) c.2.2.1 false lb b h1 (by omega) h3, hb, cond_false]
    unfold layV toV
    rw [hp]
    simp

theorem build_step (b0 : Bool) (x0 x : Int × Int × Int × List (List Int)) (form : List UInt8) (sk : List ChunkD) (D : List UInt8) (e0 : Int) (i : Nat) (buf : List UInt8) (hi : i < sk.length) (hn : sk.length ≤ 1024)
    (ho : OkC D (i + 1 = sk.length) (sk.getD i zCh)) (hD : (bodyC D (sk.getD i zCh)).length ≤ 67108864) (hb : (buf ++ pcC (form == rfV) D (sk.getD i zCh)).length ≤ 268435456) :
    (LQ.Build.l0 (b0, x0, form, sk) (D, e0) (i : Int) x (form, sk) buf).run = some (.inl (((i + 1 : Nat) : Int), x, (form, sk), buf ++ pcC (form == rfV) D (sk.getD i zCh))) := by
  have hlb : ((i : Int) == w64 (Int.ofNat sk.length - 1)) = decide (i + 1 = sk.length) := by
    rw [Int.ofNat_eq_natCast, w64_id (by omega), Bool.eq_iff_iff, beq_iff_eq, decide_eq_true_eq]; omega
  have hlay := lay_pc (rf := form == rfV) (lb := decide (i + 1 = sk.length)) (b := buf) (fun h => decide_eq_true h) ho (by omega) (by rw [List.length_append] at hb; omega)
  have hda := ho.2.2.2.2
  unfold LQ.Build.l0
  simp only [Tr.run_bind, Tr.run_br, Tr.run_ret, someBind, bifSome, bifPair, bifSame, bifOr1, bifOr2, bifAnd, bifNot, Int.toNat_natCast]
  rw [decide_eq_true (by simp only [Int.ofNat_eq_natCast]; omega), cond_true, Tr.run_need _ (by simp only [Int.ofNat_eq_natCast]; omega), Tr.run_bind, someBind]
  have hz : sk.getD i ([], [], 0, ()) = sk.getD i zCh := rfl
  rw [hz]
  generalize sk.getD i zCh = c at *
  obtain ⟨id, body, pad, u⟩ := c
  simp only at hda hlay hb ⊢
  have fin : ∀ (B W : List UInt8), LQ.lay ((id, B, pad, ()), false, decide (i + 1 = sk.length), W) buf = some (true, buf ++ pcC (form == rfV) D (id, body, pad, u)) → (Tr.cs (List UInt8 × Int) (List UInt8 × (Int × Int × Int × List (List Int)) × (List UInt8 × List ChunkD) × List UInt8 × List UInt8 × List UInt8 × Int) (.inr (W, x, (form, sk), buf, id, B, pad)) ([], 0) ([], (0, 0, 0, []), ([], []), [], [], [], 0)
      (fun r6 => Tr.ret (Sum.inr (Sum.inl (r6.1, r6.2)) : (Int × (Int × Int × Int × List (List Int)) × (List UInt8 × List ChunkD) × List UInt8) ⊕ (List UInt8 × Int) ⊕ ((Int × Int × Int × List (List Int)) × (List UInt8 × List ChunkD) × List UInt8)))
      fun r7 => Tr.bind (Bool × List UInt8) (LQ.lay ((r7.2.2.2.2.1, r7.2.2.2.2.2.1, r7.2.2.2.2.2.2, ()), false, (i : Int) == w64 (Int.ofNat r7.2.2.1.2.length - 1), r7.1) r7.2.2.2.1) (false, []) fun r8 =>
        Tr.bind (Bool × (Int × Int × Int × List (List Int)) × (List UInt8 × List ChunkD) × List UInt8) (some (!r8.1 || decide (Int.ofNat r8.2.length > 268435456), r7.2.1, r7.2.2.1, r8.2)) (false, (0, 0, 0, []), ([], []), []) fun r9 =>
          Tr.br r9.1 (Tr.ret (Sum.inr (Sum.inl ([], 60)))) (Tr.ret (Sum.inl (w64 ((i : Int) + 1), r9.2.1, r9.2.2.1, r9.2.2.2)))).run = some (.inl (((i + 1 : Nat) : Int), x, (form, sk), buf ++ pcC (form == rfV) D (id, body, pad, u))) := fun B W h => by
    rw [Tr.run_csr, Tr.run_bind]
    simp only [hlb]
    rw [h, someBind, Tr.run_bind, someBind, Tr.run_br]
    simp only [Bool.not_true, Bool.false_or]
    rw [decide_eq_false (by simp only [Int.ofNat_eq_natCast]; omega), cond_false, Tr.run_ret, w64_id (by omega)]
    rfl
  cases hc : (id == [100, 97, 116, 97]) with
  | true =>
    have hid : id = daV := beq_iff_eq.1 hc
    obtain rfl : body = [] := hda hid
    have := fin D (bif form == [82, 70, 54, 52] then [255, 255, 255, 255] else []) (by
      rw [← hlay]
      unfold bodyC
      simp only [hid, beq_self_eq_true, Bool.and_true, cond_true]
      rfl)
    exact this
  | false =>
    have hid : (id == daV) = false := hc
    have := fin body [] (by
      rw [← hlay]
      unfold bodyC
      simp only [hid, Bool.and_false, cond_false])
    exact this
end Go.Proofs.Ytjjeohcohhhcpaa.Dg
end

section
/- 'Build', and RiffBack. -/
set_option linter.unusedVariables false
set_option linter.unusedSimpArgs false
namespace Go.LM
open Go.Proofs.Ytjjeohcohhhcpaa.Dg
theorem fm_take {β : Type} (sk : List ChunkD) (f : ChunkD → List β) (k : Nat) (hk : k < sk.length) : (sk.take (k + 1)).flatMap f = (sk.take k).flatMap f ++ f (sk.getD k zCh) := by
  rw [List.take_add_one, List.getElem?_eq_getElem hk, getD_lt _ _ hk, List.flatMap_append]
  simp
theorem fm_le {β : Type} (sk : List ChunkD) (f : ChunkD → List β) (k : Nat) : ((sk.take k).flatMap f).length ≤ (sk.flatMap f).length := by
  conv => rhs; rw [← List.take_append_drop k sk, List.flatMap_append, List.length_append]
  omega
end Go.LM
namespace Go.Proofs.Ytjjeohcohhhcpaa.Dg
open Go.LM
theorem Build_run (r c W : Int) (pl : List (List Int)) (form : List UInt8) (sk : List ChunkD) (D s : List UInt8) (hfit : LQ.pcm_Fits 1 (r, c, W, pl, ()) = some 0) (hform : form = riV ∨ form = rfV) (hn : sk.length ≤ 1024)
    (hpack : LQ.pcm_Pack (r, c, W, pl, ()) (false, W == 8, ()) = some (D, 0)) (hok : ∀ i (h : i < sk.length), OkC D (i + 1 = sk.length) sk[i])
    (hs : s = form ++ (bif form == rfV then allV else leB (waV ++ sk.flatMap (pcC (form == rfV) D)).length 4) ++ (waV ++ sk.flatMap (pcC (form == rfV) D))) (hlen : s.length ≤ 67108864)
    (hP : LQ.Parse s = some ((r, c, W, pl, ()), (form, sk, ()), 0)) (hsame : LQ.pcm_Same (r, c, W, pl, ()) (r, c, W, pl, ()) = some true) : LQ.Build (r, c, W, pl, ()) (form, sk, ()) = some (s, 0) := by
  have hB : (waV ++ sk.flatMap (pcC (form == rfV) D)).length ≤ s.length := by
    rw [hs]
    generalize waV ++ sk.flatMap (pcC (form == rfV) D) = B
    simp only [List.length_append]; omega
  have hsk : (sk.flatMap (pcC (form == rfV) D)).length ≤ 67108864 := by rw [List.length_append] at hB; omega
  have hloop := loopO_steps (f := fun (d : Int × (Int × Int × Int × List (List Int)) × (List UInt8 × List ChunkD) × List UInt8) ↦ (LQ.Build.l0 (false, (r, c, W, pl), form, sk) (D, 0) d.fst d.snd.fst d.snd.snd.fst d.snd.snd.snd).run)
    (fun k => ((k : Int), (r, c, W, pl), (form, sk), waV ++ (sk.take k).flatMap (pcC (form == rfV) D))) (r := .inr ((r, c, W, pl), (form, sk), waV ++ sk.flatMap (pcC (form == rfV) D))) sk.length (fun k hk => by
      have hle := fm_le sk (pcC (form == rfV) D) (k + 1)
      rw [fm_take _ _ k hk, List.length_append] at hle
      have hpc : (bodyC D (sk.getD k zCh)).length ≤ (pcC (form == rfV) D (sk.getD k zCh)).length := by
        unfold pcC
        simp only [List.length_append]
        omega
      have := build_step false (r, c, W, pl) (r, c, W, pl) form sk D 0 k (waV ++ (sk.take k).flatMap (pcC (form == rfV) D)) hk hn (by rw [getD_lt _ _ hk]; exact hok k hk) (by omega) (by have h4 : waV.length = 4 := rfl; simp only [List.length_append]; omega)
      rw [this, fm_take _ _ k hk, List.append_assoc]) (by
      simp only [List.take_length]
      unfold LQ.Build.l0
      rw [Tr.run_br, decide_eq_false (by simp only [Int.ofNat_eq_natCast]; omega), cond_false, Tr.run_ret])
  simp only [List.take_zero, List.flatMap_nil, List.append_nil] at hloop
  have hc : (bif !form == [82, 73, 70, 70] then !form == [82, 70, 54, 52] || decide (Int.ofNat sk.length > 1024) else decide (Int.ofNat sk.length > 1024)) = false := by
    rw [decide_eq_false (by simp only [Int.ofNat_eq_natCast]; omega)]
    rcases hform with rfl | rfl <;> decide
  have hlay : LQ.layout W = some (false, W == 8, ()) := rfl
  have hleB : (form == rfV) = false → LQ.bytes_Le (Int.ofNat (waV ++ sk.flatMap (pcC (form == rfV) D)).length) 4 = some (leB (waV ++ sk.flatMap (pcC (form == rfV) D)).length 4, 0) := fun _ => bLe_eq _ (by omega)
  unfold LQ.Build LQ.Build.t
  simp only [Tr.run_bind, Tr.run_br, Tr.run_ret, someBind, bifSome, bifPair, bifSame, bifOr1, bifOr2, bifAnd, bifNot, hfit, hc, hlay, hpack, bne_self_eq_false, cond_false]
  refine (congrArg (fun o => Option.bind o _) hloop).trans ?_
  rw [someBind, Tr.run_csr, Tr.run_bind]
  have hsz : (bif form == [82, 73, 70, 70] then (LQ.bytes_Le (Int.ofNat (waV ++ sk.flatMap (pcC (form == rfV) D)).length) 4).bind fun b => some (b.1, (r, c, W, pl), (form, sk), waV ++ sk.flatMap (pcC (form == rfV) D)) else some ([255, 255, 255, 255], (r, c, W, pl), (form, sk), waV ++ sk.flatMap (pcC (form == rfV) D))) =
      some ((bif form == rfV then allV else leB (waV ++ sk.flatMap (pcC (form == rfV) D)).length 4), (r, c, W, pl), (form, sk), waV ++ sk.flatMap (pcC (form == rfV) D)) := by
    rcases hform with rfl | rfl
    · rw [show (riV == ([82, 73, 70, 70] : List UInt8)) = true from rfl, cond_true, hleB rfl]; rfl
    · rfl
  refine (congrArg (fun o => Option.bind o _) hsz).trans ?_
  rw [someBind]
  have hs' : (form.append (bif form == rfV then allV else leB (waV ++ sk.flatMap (pcC (form == rfV) D)).length 4)).append (waV ++ sk.flatMap (pcC (form == rfV) D)) = s := hs.symm
  have hl1 : form.length ≤ s.length := by rw [hs]; simp only [List.length_append]; omega
  have hl2 : (form.append (bif form == rfV then allV else leB (waV ++ sk.flatMap (pcC (form == rfV) D)).length 4)).length ≤ s.length := by rw [hs]; show (form ++ _).length ≤ _; simp only [List.length_append]; omega
  have hl3 : form.length + (bif form == rfV then allV else leB (waV ++ sk.flatMap (pcC (form == rfV) D)).length 4).length ≤ s.length := by rw [hs]; simp only [List.length_append]; omega
  rw [Tr.run_need _ (by simp only; omega), Tr.run_need _ (by simp only; omega), Tr.run_br]
  simp only [hs']
  rw [decide_eq_false (by simp only [Int.ofNat_eq_natCast]; omega), cond_false, Tr.run_bind, hP, someBind, Tr.run_bind]
  have hq := eqCh_self sk (by omega)
  simp only [bne_self_eq_false, cond_false, hsame, hq, someBind, Bool.not_true, beq_self_eq_true, Tr.run_br, Tr.run_ret]
end Go.Proofs.Ytjjeohcohhhcpaa.Dg
namespace Go.LM
open Go.Proofs.Ytjjeohcohhhcpaa.Dg
theorem head_split {s : List UInt8} (h : 12 ≤ s.length) : s = s.take 4 ++ (s.drop 4).take 4 ++ ((s.drop 8).take 4 ++ s.drop 12) := by
  rw [show s.drop 12 = (s.drop 8).drop 4 by rw [List.drop_drop], List.take_append_drop, List.append_assoc, show s.drop 8 = (s.drop 4).drop 4 by rw [List.drop_drop], List.take_append_drop, List.take_append_drop]
end Go.LM
namespace Go.Proofs.Ytjjeohcohhhcpaa.Dg
open Go.LM
theorem Build_parsed {s : List UInt8} (hs : s.length ≤ 1048576) {p : PcmD} {w : List UInt8 × List ChunkD × PUnit} (h1 : LQ.Parse s = some (p, w, 0)) {R : RdD} {b : List UInt8} {q : Nat} (hp : Parsed s p w R b q) : LQ.Build p w = some (s, 0) := by
  obtain ⟨hh, hI, hf, hok, hg, hlen, hq, hall, hpcm⟩ := hp
  obtain ⟨form, sk, u⟩ := w
  simp only at hf hI
  subst hpcm hf
  have hk := fmt_kind hok
  have bd := fmtOK_bd hok
  obtain ⟨g1, g2, g3⟩ := up_good _ _ _ _ q hk hq hall
  have hpk := back2 R.2.2.2.2.2.2 _ _ _ q false _ hk hlen hq hall
  obtain ⟨h12, hwa, hfm⟩ := hh
  have hsp := head_split h12
  have htx := hI.txt
  rw [List.append_nil] at htx
  have hB : (waV ++ sk.flatMap (pcC (s.take 4 == rfV) R.2.2.2.2.2.2)).length + 8 = s.length := by
    rw [← htx, ← hwa, show s.drop 12 = (s.drop 8).drop 4 by rw [List.drop_drop], List.take_append_drop, List.length_drop]; omega
  refine Build_run _ _ _ _ (s.take 4) sk R.2.2.2.2.2.2 s ?_ ?_ hI.num hpk (fun i hi => (hI.oks i hi).mono fun x => x.1) ?_ (by omega) h1 ?_
  · rw [Fits_eq _ _ _ _ _ g1]
    unfold fitsV
    have e : ((pieceL b 14 2 : Nat) : Int) % 8 = 0 := by have := bd.2.2.2.2.2.2; omega
    rw [g2, decide_eq_true e]; rfl
  · rcases hfm with ⟨a, _⟩ | ⟨a, _⟩
    · exact .inr a
    · exact .inl a
  · conv => lhs; rw [hsp]
    rw [hwa, ← htx]
    congr 2
    rcases hfm with ⟨a, b⟩ | ⟨a, b⟩
    · rw [a, b]; rfl
    · rw [show (s.take 4 == rfV) = false by rw [a]; rfl, cond_false]
      have hl4 : ((s.drop 4).take 4).length = 4 := by rw [List.length_take, List.length_drop]; omega
      have := leB_leV ((s.drop 4).take 4)
      rw [hl4] at this
      rw [← this]
      congr 1
      rw [← htx] at hB
      have e : leV ((s.drop 4).take 4) = pieceL s 4 4 := rfl
      omega
  · exact pSame_self _ _ _ _ () () g1.n1 g1.n2
end Go.Proofs.Ytjjeohcohhhcpaa.Dg
end

section
/- 'Plain': its fmt. -/
set_option linter.unusedVariables false
set_option linter.unusedSimpArgs false
namespace Go.LM
open Go.Proofs.Ytjjeohcohhhcpaa.Dg
/-- The numbers of a fmt, with their widths. -/
def fldV (r C W : Nat) (long : Bool) : List (Nat × Nat) :=
  (bif long then 65534 else 1, 2) :: [(C, 2), (r, 4), (r * (C * W / 8), 4), (C * W / 8, 2), (W, 2)] ++ (bif long then [(22, 2), (W, 2), (2 ^ C - 1, 4)] else [])
def longV (C W : Nat) : Bool := decide (2 < C) || decide (16 < W)
def fmtT (r C W : Nat) : List UInt8 := (fldV r C W (longV C W)).flatMap (fun x => leB x.1 x.2) ++ (bif longV C W then guidV else [])
def fldI (l : List (Nat × Nat)) : List (List Int) := l.map fun x => [(x.1 : Int), (x.2 : Int)]
end Go.LM
namespace Go.Proofs.Ytjjeohcohhhcpaa.Dg
open Go.LM
theorem plain_loop (l : List (Nat × Nat)) (hl : l.length ≤ 100) (h : ∀ x ∈ l, 1 ≤ x.2 ∧ x.2 < 8 ∧ x.1 < 256 ^ x.2) (y g : List UInt8) :
    loopO (fun (d : List UInt8 × Int × List UInt8 × List (List Int)) ↦ (LQ.Plain.l0 (g, fldI l) d.fst d.snd.fst d.snd.snd.fst d.snd.snd.snd).run) (([] : List UInt8), (0 : Int), y, fldI l) = some (l.flatMap (fun x => leB x.1 x.2), y) := by
  have hfl : ∀ k, ((l.take k).flatMap (fun x => leB x.1 x.2)).length ≤ k * 8 := fun k => by
    induction k with
    | zero => simp
    | succ k ih =>
      by_cases hk : k < l.length
      · rw [List.take_add_one, List.getElem?_eq_getElem hk, List.flatMap_append, List.length_append]
        have := h l[k] (List.getElem_mem hk)
        simp only [Option.toList_some, List.flatMap_cons, List.flatMap_nil, List.append_nil, leB_len]
        omega
      · rw [List.take_of_length_le (by omega)]
        rw [List.take_of_length_le (by omega)] at ih
        omega
  have := loopO_steps (f := fun (d : List UInt8 × Int × List UInt8 × List (List Int)) ↦ (LQ.Plain.l0 (g, fldI l) d.fst d.snd.fst d.snd.snd.fst d.snd.snd.snd).run) (fun k => ((l.take k).flatMap (fun x => leB x.1 x.2), (k : Int), y, fldI l)) (r := (l.flatMap (fun x => leB x.1 x.2), y)) l.length (fun k hk => by
    have hx := h l[k] (List.getElem_mem hk)
    have hg : (fldI l).getD k (List.replicate (nat_lit 2) (0 : Int)) = [(l[k].1 : Int), (l[k].2 : Int)] := by
      unfold fldI
      rw [getD_lt _ _ (by simpa using hk), List.getElem_map]
    have hle := bytes_Le_eq l[k].1 l[k].2 hx.1 (by omega) (by
      have : 256 ^ l[k].2 ≤ 256 ^ 7 := Nat.pow_le_pow_right (by decide) (by omega)
      omega) (fun _ => hx.2.2)
    have hf := hfl k
    have hlen : (fldI l).length = l.length := by simp [fldI]
    unfold LQ.Plain.l0
    simp only [Int.toNat_natCast, hg]
    rw [Tr.run_br, decide_eq_true (by rw [hlen]; simp only [Int.ofNat_eq_natCast]; omega), cond_true, Tr.run_need _ (by rw [hlen]; simp only [Int.ofNat_eq_natCast]; omega), Tr.run_need _ (by omega), Tr.run_need _ (by omega), Tr.run_bind]
    refine (congrArg (fun o => Option.bind o _) hle).trans ?_
    rw [someBind, Tr.run_need _ (by simp only [leB_len]; omega), Tr.run_ret, w64_id (by omega)]
    congr 2
    rw [List.take_add_one, List.getElem?_eq_getElem hk, List.flatMap_append]
    simp) (by
    have hlen : (fldI l).length = l.length := by simp [fldI]
    unfold LQ.Plain.l0
    rw [Tr.run_br, decide_eq_false (by simp only [hlen, Int.ofNat_eq_natCast]; omega), cond_false, Tr.run_ret, List.take_length])
  exact this

theorem Plain_eq (r C W : Nat) (pl : List (List Int)) (hr : 1 ≤ r ∧ r ≤ 655350) (hC : 1 ≤ C ∧ C ≤ 8) (hW : 1 ≤ W ∧ W ≤ 32) (hf : LQ.pcm_Fits 1 ((r : Int), (C : Int), (W : Int), pl, ()) = some 0) :
    LQ.Plain ((r : Int), (C : Int), (W : Int), pl, ()) = some (riV, [(fmV, fmtT r C W, 0, ()), (daV, [], 0, ())], ()) := by
  have fe := frame_eq hC.2 hW.2
  have hF : C * W / 8 ≤ 32 := by
    have : C * W ≤ 8 * 32 := Nat.mul_le_mul (by omega) (by omega)
    omega
  have hRF : r * (C * W / 8) ≤ 655350 * 32 := Nat.mul_le_mul (by omega) hF
  have fe2 : w64 ((r : Int) * ((C * W / 8 : Nat) : Int)) = ((r * (C * W / 8) : Nat) : Int) := by
    rw [← Int.natCast_mul, w64_id (by omega)]
  have hp2 : w64 (w64 ((1 : Int) * p2 (C : Int) 64) - 1) = ((2 ^ C - 1 : Nat) : Int) := by
    have h1 : p2 (C : Int) 64 = ((2 ^ C : Nat) : Int) := by
      show ((2 ^ min ((C : Int).toNat) 64 : Nat) : Int) = _
      rw [Int.toNat_natCast, Nat.min_eq_left (by omega)]
    have h2 : 2 ^ C ≤ 2 ^ 8 := Nat.pow_le_pow_right (by decide) hC.2
    have h3 : 1 ≤ 2 ^ C := Nat.one_le_two_pow
    rw [h1, Int.one_mul, w64_id (x := ((2 ^ C : Nat) : Int)) (by omega), w64_id (by omega)]
    omega
  have hl1 : decide ((C : Int) > 2) = decide (2 < C) := by rw [decide_eq_decide]; omega
  have hl2 : decide ((W : Int) > 16) = decide (16 < W) := by rw [decide_eq_decide]; omega
  have hfld : ∀ b, ∀ x ∈ fldV r C W b, 1 ≤ x.2 ∧ x.2 < 8 ∧ x.1 < 256 ^ x.2 := fun b x hx => by
    have h2 : 2 ^ C ≤ 2 ^ 8 := Nat.pow_le_pow_right (by decide) hC.2
    unfold fldV at hx
    cases b <;> simp only [cond_true, cond_false, List.cons_append, List.nil_append, List.append_nil, List.mem_cons, List.not_mem_nil, or_false] at hx
    · rcases hx with rfl | rfl | rfl | rfl | rfl | rfl <;> simp only <;> omega
    · rcases hx with rfl | rfl | rfl | rfl | rfl | rfl | rfl | rfl | rfl <;> simp only <;> omega
  have hT : fmtT r C W = (fldV r C W (longV C W)).flatMap (fun x => leB x.1 x.2) ++ (bif longV C W then guidV else []) := rfl
  unfold LQ.Plain LQ.Plain.t
  simp only [Tr.run_bind, Tr.run_br, Tr.run_ret, someBind, bifSome, bifPair, bifSame, bifOr1, bifOr2, bifAnd, bifNot, hf, bne_self_eq_false, cond_false, fe, fe2, hp2, hl1, hl2]
  have hlv : (decide (2 < C) || decide (16 < W)) = longV C W := rfl
  rw [hlv]
  generalize hb : longV C W = b at hT ⊢
  cases b with
  | false =>
    simp only [cond_false, someBind]
    have := plain_loop (fldV r C W false) (by simp [fldV]) (hfld false) [] []
    refine (congrArg (fun o => Option.bind o _) this).trans ?_
    rw [someBind, hT]
    simp only [cond_false, List.append_nil]
    rfl
  | true =>
    simp only [cond_true]
    rw [Tr.run_need _ (by simp only [List.length_set, List.length_replicate]; decide), Tr.run_need _ (by decide), Tr.run_need _ (by omega), Tr.run_need _ (by simp only [List.length_append, List.length_set, List.length_replicate]; decide), Tr.run_ret, someBind]
    have := plain_loop (fldV r C W true) (by simp [fldV]) (hfld true) [] []
    refine (congrArg (fun o => Option.bind o _) this).trans ?_
    rw [someBind, Tr.run_need _ (by
      have : (fldV r C W true).flatMap (fun x => leB x.1 x.2) = leB 65534 2 ++ (leB C 2 ++ (leB r 4 ++ (leB (r * (C * W / 8)) 4 ++ (leB (C * W / 8) 2 ++ (leB W 2 ++ (leB 22 2 ++ (leB W 2 ++ leB (2 ^ C - 1) 4))))))) := by simp [fldV]
      simp only [this, List.length_append, leB_len]
      omega), Tr.run_ret, someBind, hT]
    rfl
end Go.Proofs.Ytjjeohcohhhcpaa.Dg
end

section
/- A plain file, taken apart. -/
set_option linter.unusedVariables false
set_option linter.unusedSimpArgs false
namespace Go.LM
open Go.Proofs.Ytjjeohcohhhcpaa.Dg
theorem pieceL_mid (A B C : List UInt8) (a n : Nat) (ha : A.length = a) (hb : B.length = n) : pieceL (A ++ (B ++ C)) a n = leV B := by
  unfold pieceL
  rw [List.drop_left' ha, List.take_left' hb]
theorem fmtT_ok (r C W : Nat) (hr : 1 ≤ r ∧ r ≤ 655350) (hC : 1 ≤ C ∧ C ≤ 8) (hW : 1 ≤ W ∧ W ≤ 32 ∧ W % 8 = 0) : fmtOK (fmtT r C W) = true ∧ fmtPcm (fmtT r C W) = ((r : Int), (C : Int), (W : Int), [], ()) := by
  have hF : C * W / 8 ≤ 32 := by
    have : C * W ≤ 8 * 32 := Nat.mul_le_mul (by omega) (by omega)
    omega
  have hRF : r * (C * W / 8) ≤ 655350 * 32 := Nat.mul_le_mul (by omega) hF
  have h2 : 2 ^ C ≤ 2 ^ 8 := Nat.pow_le_pow_right (by decide) hC.2
  have key : ∀ (T : Nat) (X : List UInt8), T < 65536 → ∀ s, s = leB T 2 ++ (leB C 2 ++ (leB r 4 ++ (leB (r * (C * W / 8)) 4 ++ (leB (C * W / 8) 2 ++ (leB W 2 ++ X))))) →
      pieceL s 0 2 = T ∧ pieceL s 2 2 = C ∧ pieceL s 4 4 = r ∧ pieceL s 8 4 = r * (C * W / 8) ∧ pieceL s 12 2 = C * W / 8 ∧ pieceL s 14 2 = W := fun T X hT s hs => by
    subst hs
    refine ⟨?_, ?_, ?_, ?_, ?_, ?_⟩
    · exact (pieceL_mid [] (leB T 2) _ 0 2 rfl (leB_len _ _)).trans (leV_leB _ _ (by omega))
    · exact (pieceL_mid (leB T 2) (leB C 2) _ 2 2 (leB_len _ _) (leB_len _ _)).trans (leV_leB _ _ (by omega))
    · have := (pieceL_mid (leB T 2 ++ leB C 2) (leB r 4) (leB (r * (C * W / 8)) 4 ++ (leB (C * W / 8) 2 ++ (leB W 2 ++ X))) 4 4 (by simp [leB_len]) (leB_len _ _)).trans (leV_leB _ _ (by omega))
      simpa only [List.append_assoc] using this
    · have := (pieceL_mid (leB T 2 ++ leB C 2 ++ leB r 4) (leB (r * (C * W / 8)) 4) (leB (C * W / 8) 2 ++ (leB W 2 ++ X)) 8 4 (by simp [leB_len]) (leB_len _ _)).trans (leV_leB _ _ (by omega))
      simpa only [List.append_assoc] using this
    · have := (pieceL_mid (leB T 2 ++ leB C 2 ++ leB r 4 ++ leB (r * (C * W / 8)) 4) (leB (C * W / 8) 2) (leB W 2 ++ X) 12 2 (by simp [leB_len]) (leB_len _ _)).trans (leV_leB _ _ (by omega))
      simpa only [List.append_assoc] using this
    · have := (pieceL_mid (leB T 2 ++ leB C 2 ++ leB r 4 ++ leB (r * (C * W / 8)) 4 ++ leB (C * W / 8) 2) (leB W 2) X 14 2 (by simp [leB_len]) (leB_len _ _)).trans (leV_leB _ _ (by omega))
      simpa only [List.append_assoc] using this
  have hcomm : r * (C * W / 8) = C * W / 8 * r := Nat.mul_comm _ _
  cases hl : longV C W with
  | false =>
    have hs : fmtT r C W = leB 1 2 ++ (leB C 2 ++ (leB r 4 ++ (leB (r * (C * W / 8)) 4 ++ (leB (C * W / 8) 2 ++ (leB W 2 ++ []))))) := by
      unfold fmtT fldV
      rw [hl]
      simp
    obtain ⟨q1, q2, q3, q4, q5, q6⟩ := key 1 [] (by omega) _ hs
    have hlen : (fmtT r C W).length = 16 := by rw [hs]; simp [leB_len]
    refine ⟨decide_eq_true ⟨.inl ⟨q1, .inl hlen⟩, ?_, ?_, .inl hlen, .inl (by omega)⟩, by unfold fmtPcm; rw [q2, q3, q6]⟩
    · rw [q2, q3, q6]; omega
    · rw [q2, q3, q4, q5, q6]; exact ⟨rfl, hcomm⟩
  | true =>
    have hs : fmtT r C W = leB 65534 2 ++ (leB C 2 ++ (leB r 4 ++ (leB (r * (C * W / 8)) 4 ++ (leB (C * W / 8) 2 ++ (leB W 2 ++ (leB 22 2 ++ (leB W 2 ++ (leB (2 ^ C - 1) 4 ++ guidV)))))))) := by
      unfold fmtT fldV
      rw [hl]
      simp
    obtain ⟨q1, q2, q3, q4, q5, q6⟩ := key 65534 _ (by omega) _ hs
    have hlen : (fmtT r C W).length = 40 := by rw [hs]; simp [leB_len, guidV]
    have q7 : pieceL (fmtT r C W) 16 2 = 22 := by
      have := (pieceL_mid (leB 65534 2 ++ leB C 2 ++ leB r 4 ++ leB (r * (C * W / 8)) 4 ++ leB (C * W / 8) 2 ++ leB W 2) (leB 22 2) (leB W 2 ++ (leB (2 ^ C - 1) 4 ++ guidV)) 16 2 (by simp [leB_len]) (leB_len _ _)).trans (leV_leB _ _ (by omega))
      rw [hs]
      simpa only [List.append_assoc] using this
    have q8 : pieceL (fmtT r C W) 18 2 = W := by
      have := (pieceL_mid (leB 65534 2 ++ leB C 2 ++ leB r 4 ++ leB (r * (C * W / 8)) 4 ++ leB (C * W / 8) 2 ++ leB W 2 ++ leB 22 2) (leB W 2) (leB (2 ^ C - 1) 4 ++ guidV) 18 2 (by simp [leB_len]) (leB_len _ _)).trans (leV_leB _ _ (by omega))
      rw [hs]
      simpa only [List.append_assoc] using this
    have q9 : (fmtT r C W).drop 24 = guidV := by
      have := List.drop_left' (l₁ := leB 65534 2 ++ leB C 2 ++ leB r 4 ++ leB (r * (C * W / 8)) 4 ++ leB (C * W / 8) 2 ++ leB W 2 ++ leB 22 2 ++ leB W 2 ++ leB (2 ^ C - 1) 4) (l₂ := guidV) (i := 24) (by simp [leB_len])
      rw [hs]
      simpa only [List.append_assoc] using this
    refine ⟨decide_eq_true ⟨.inr ⟨q1, hlen⟩, ?_, ?_, .inr (by omega), .inr ⟨by rw [q8, q6], q9⟩⟩, by unfold fmtPcm; rw [q2, q3, q6]⟩
    · rw [q2, q3, q6]; omega
    · rw [q2, q3, q4, q5, q6]; exact ⟨rfl, hcomm⟩

theorem take_fwd (id body more : List UInt8) (pad : Int) (hn : nameV id = true) (hb : body.length < 4294967296) (h0 : body.length % 2 = 0 → pad = 0) (h1 : body.length % 2 = 1 → 0 ≤ pad ∧ pad ≤ 255) :
    takeV (id ++ leB body.length 4 ++ body ++ (bif body.length % 2 == 1 && decide (0 ≤ pad) then [UInt8.ofNat pad.toNat] else []) ++ more) false (-1) = ((id, body, pad, ()), more, 0) := by
  have h4 := nameV_len hn
  have hl := leB_len body.length 4
  generalize hP : (bif body.length % 2 == 1 && decide (0 ≤ pad) then [UInt8.ofNat pad.toNat] else []) = P
  have e : id ++ leB body.length 4 ++ body ++ P ++ more = id ++ (leB body.length 4 ++ (body ++ (P ++ more))) := by simp only [List.append_assoc]
  rw [e]
  have t4 : (id ++ (leB body.length 4 ++ (body ++ (P ++ more)))).take 4 = id := List.take_left' h4
  have d4 : (id ++ (leB body.length 4 ++ (body ++ (P ++ more)))).drop 4 = leB body.length 4 ++ (body ++ (P ++ more)) := List.drop_left' h4
  have d8 : (id ++ (leB body.length 4 ++ (body ++ (P ++ more)))).drop 8 = body ++ (P ++ more) := by
    rw [show 8 = 4 + 4 from rfl, ← List.drop_drop, d4]; exact List.drop_left' hl
  have t48 : ((id ++ (leB body.length 4 ++ (body ++ (P ++ more)))).drop 4).take 4 = leB body.length 4 := by rw [d4]; exact List.take_left' hl
  have hlen : (id ++ (leB body.length 4 ++ (body ++ (P ++ more)))).length = 8 + (body.length + (P.length + more.length)) := by simp only [List.length_append]; omega
  have hN : numV false (leB body.length 4) = body.length := leV_leB _ _ (by omega)
  unfold takeV
  rw [t4, t48, hN, d8, hlen, hn, decide_eq_false (by omega)]
  simp only [Bool.not_true, Bool.or_false, cond_false, show decide ((-1 : Int) < 0) = true from rfl, cond_true, Int.toNat_natCast]
  rw [decide_eq_false (by omega), cond_false, List.take_left' rfl, List.drop_left' rfl]
  unfold padV
  by_cases ho : body.length % 2 = 1
  · obtain ⟨p0, p1⟩ := h1 ho
    rw [show (body.length % 2 == 1) = true from beq_iff_eq.2 ho, decide_eq_true p0] at hP
    subst hP
    rw [show (body.length % 2 == 0) = false from beq_eq_false_iff_ne.2 (by omega), cond_false]
    simp only [Bool.and_self, cond_true, List.cons_append, List.nil_append]
    rw [show ((UInt8.ofNat pad.toNat).toNat : Int) = pad by rw [UInt8.toNat_ofNat']; omega]
  · rw [show (body.length % 2 == 1) = false from beq_eq_false_iff_ne.2 ho] at hP
    subst hP
    rw [show (body.length % 2 == 0) = true from beq_iff_eq.2 (by omega), cond_true, h0 (by omega)]
    rfl
end Go.LM
end

section
/- RiffPlain. -/
set_option linter.unusedVariables false
set_option linter.unusedSimpArgs false
namespace Go.Proofs.Ytjjeohcohhhcpaa.Dg
open Go.LM
theorem next_fwd (c : ChunkD) (D more : List UInt8) (size lo sm : Int) (f : Bool × PcmD) (d : Bool × List UInt8) (sk : List ChunkD) (ho : OkC D False c) (hk : sk.length < 1024) (hs : (pcC false D c ++ more).length ≤ 1073741824) (R' : RdD)
    (hc : chunkV (c.1, bodyC D c, c.2.2.1, ()) (size, false, lo, sm, f, d) = (0, R')) :
    LQ.next (pcC false D c ++ more) (size, false, lo, sm, f, d) sk = some ((more, 0), R', sk ++ [keepV (c.1, bodyC D c, c.2.2.1, ())]) := by
  have ht := take_fwd c.1 (bodyC D c) more c.2.2.1 ho.1 ho.2.1 ho.2.2.1 (fun h => (ho.2.2.2.1 h).resolve_right fun x => x.2)
  have hp : pcC false D c ++ more = c.1 ++ leB (bodyC D c).length 4 ++ bodyC D c ++ (bif (bodyC D c).length % 2 == 1 && decide (0 ≤ c.2.2.1) then [UInt8.ofNat c.2.2.1.toNat] else []) ++ more := by
    unfold pcC hdrC padC
    rw [Bool.false_and, cond_false]
  rw [← hp] at ht
  have hbl : (bodyC D c).length ≤ 1073741824 := by
    rw [hp] at hs
    simp only [List.length_append] at hs
    omega
  have hce := chunk_eq (c.1, bodyC D c, c.2.2.1, ()) (size, false, lo, sm, f, d) sk rfl (by show (bodyC D c).length ≤ _; omega)
  rw [hc] at hce
  have := next_run (pcC false D c ++ more) (size, false, lo, sm, f, d) sk hs (by omega) (-1) rfl 0 R' (by rw [ht]; exact hce)
  rw [this, ht]
  simp only [bne_self_eq_false, cond_false]
  rw [show (Int.ofNat sk.length == 1024) = false by simp only [beq_eq_false_iff_ne, Int.ofNat_eq_natCast]; omega, cond_false]

theorem loop_fwd (rest more : List UInt8) (x : Int × Int × Int) (y : List UInt8) (R R' : RdD) (sk sk' : List ChunkD) (hne : rest ≠ []) (h : LQ.next rest R sk = some ((more, 0), R', sk')) :
    (LQ.Parse.l0 rest x y R sk).run = some (.inl (more, x, y, R', sk')) := by
  obtain ⟨size', rf', lo, sm, ⟨fb, fp⟩, db, dd⟩ := R
  unfold LQ.Parse.l0
  rw [Tr.run_br, show (!(rest == ([] : List UInt8))) = true by simpa using hne, cond_true, Tr.run_bind]
  refine (congrArg (fun o => Option.bind o _) h).trans ?_
  rfl

/-- The plain file. -/
def plainF (F D : List UInt8) : List ChunkD := [(fmV, F, 0, ()), (daV, [], 0, ())]
def plainS (F D : List UInt8) : List UInt8 := riV ++ leB (waV ++ (plainF F D).flatMap (pcC false D)).length 4 ++ (waV ++ (plainF F D).flatMap (pcC false D))

theorem plain_ok (F D : List UInt8) (hF : F.length % 2 = 0) (hF2 : F.length ≤ 100) (hD : D.length ≤ 40000000) : OkC D False (fmV, F, 0, ()) ∧ OkC D False (daV, [], 0, ()) := by
  have b1 : bodyC D (fmV, F, 0, ()) = F := rfl
  have b2 : bodyC D (daV, [], 0, ()) = D := rfl
  refine ⟨⟨(by decide : nameV fmV = true), by rw [b1]; omega, fun _ => rfl, fun h => .inl ⟨Int.le_refl 0, by show (0 : Int) ≤ 255; decide⟩, fun h => absurd (show fmV = daV from h) (by decide)⟩, ⟨(by decide : nameV daV = true), by rw [b2]; omega, fun _ => rfl, fun _ => .inl ⟨Int.le_refl 0, by show (0 : Int) ≤ 255; decide⟩, fun _ => rfl⟩⟩

theorem Parse_plain (r C W : Nat) (pl : List (List Int)) (hl : PB pl) (hok : pcmOk r C W pl = true) (hW8 : W % 8 = 0) :
    LQ.Parse (plainS (fmtT r C W) (packV false ((W : Int) == 8) W pl)) = some (((r : Int), (C : Int), (W : Int), pl, ()), (riV, plainF (fmtT r C W) (packV false ((W : Int) == 8) W pl), ()), 0) ∧
    (plainS (fmtT r C W) (packV false ((W : Int) == 8) W pl)).length ≤ 67108864 := by
  obtain ⟨W', C', hw, hc, h1, h2, h3, h4, h5, h6, h7, h8⟩ := pcmOk_parts hok
  obtain rfl : W = W' := by omega
  obtain rfl : C = C' := by omega
  obtain ⟨hfo, hfp⟩ := fmtT_ok r C W ⟨by omega, by omega⟩ ⟨h3, h4⟩ ⟨by omega, h2, hW8⟩
  have hFl : (fmtT r C W).length = 16 ∨ (fmtT r C W).length = 18 ∨ (fmtT r C W).length = 40 := by
    have := (of_decide_eq_true hfo).1
    omega
  have hDl : (packV false ((W : Int) == 8) W pl).length = (pl.getD 0 []).length * C * bwN W := by
    rw [pack_grid false _ W pl C (by omega) h5]
    exact flat_len _ _ (fun j => smpB_len _ _ _) _
  have hbw := bwN_bd (W := W) ⟨h1, h2⟩
  have hn0 := hl.n2 0
  have hDb : (packV false ((W : Int) == 8) W pl).length ≤ 33554432 := by
    rw [hDl]
    have a1 : (pl.getD 0 []).length * C ≤ 1048576 * 8 := Nat.mul_le_mul hn0 h4
    have a2 : (pl.getD 0 []).length * C * bwN W ≤ 1048576 * 8 * 4 := Nat.mul_le_mul a1 hbw.2.1
    omega
  have hback := back1 r C W pl false ((W : Int) == 8) hl hok
  generalize hD : packV false ((W : Int) == 8) W pl = D at *
  generalize hF : fmtT r C W = F at *
  obtain ⟨o1, o2⟩ := plain_ok F D (by omega) (by omega) (by omega)
  have hfl : (plainF F D).flatMap (pcC false D) = pcC false D (fmV, F, 0, ()) ++ pcC false D (daV, [], 0, ()) := by
    unfold plainF
    simp
  have l1 : (pcC false D (fmV, F, 0, ())).length ≤ 49 := by
    have b1 : bodyC D (fmV, F, 0, ()) = F := rfl
    unfold pcC hdrC padC
    rw [b1, show (F.length % 2 == 1) = false from beq_eq_false_iff_ne.2 (by omega)]
    simp [leB_len, fmV]
    omega
  have l2 : (pcC false D (daV, [], 0, ())).length ≤ D.length + 9 ∧ 8 ≤ (pcC false D (daV, [], 0, ())).length := by
    have b1 : bodyC D (daV, [], 0, ()) = D := rfl
    unfold pcC hdrC padC
    rw [b1]
    cases (D.length % 2 == 1) <;> simp [leB_len, daV] <;> omega
  have hS : (plainS F D).length = 12 + ((pcC false D (fmV, F, 0, ())).length + (pcC false D (daV, [], 0, ())).length) := by
    unfold plainS
    rw [hfl]
    simp only [List.length_append, leB_len]
    show 4 + 4 + (4 + _) = _
    omega
  have hSl : (plainS F D).length ≤ 67108864 := by omega
  refine ⟨?_, hSl⟩
  have t4 : (plainS F D).take 4 = riV := by
    unfold plainS
    rw [List.append_assoc]
    exact List.take_left' rfl
  have d4 : (plainS F D).drop 4 = leB (waV ++ (plainF F D).flatMap (pcC false D)).length 4 ++ (waV ++ (plainF F D).flatMap (pcC false D)) := by
    unfold plainS
    rw [List.append_assoc]
    exact List.drop_left' rfl
  have d8 : (plainS F D).drop 8 = waV ++ (plainF F D).flatMap (pcC false D) := by
    rw [show 8 = 4 + 4 from rfl, ← List.drop_drop, d4]; exact List.drop_left' (leB_len _ _)
  have d12 : (plainS F D).drop 12 = pcC false D (fmV, F, 0, ()) ++ pcC false D (daV, [], 0, ()) := by
    rw [show 12 = 8 + 4 from rfl, ← List.drop_drop, d8, hfl]; exact List.drop_left' rfl
  have hwl : (waV ++ (plainF F D).flatMap (pcC false D)).length + 8 = (plainS F D).length := by rw [← d8, List.length_drop]; omega
  have hh : HeadP (plainS F D) := by
    refine ⟨by omega, by rw [d8]; exact List.take_left' rfl, .inr ⟨t4, ?_⟩⟩
    unfold pieceL
    rw [d4, List.take_left' (leB_len _ _), leV_leB _ _ (by omega)]
    exact hwl
  rw [Parse_run _ hSl hh, t4, d12]
  have hne1 : pcC false D (fmV, F, 0, ()) ++ pcC false D (daV, [], 0, ()) ≠ [] := by
    intro e
    have : (pcC false D (fmV, F, 0, ()) ++ pcC false D (daV, [], 0, ())).length = 0 := by rw [e]; rfl
    rw [List.length_append] at this
    omega
  have hne2 : pcC false D (daV, [], 0, ()) ≠ [] := by
    intro e
    have : (pcC false D (daV, [], 0, ())).length = 0 := by rw [e]; rfl
    omega
  have hfv := (fmtV_eq F (by omega)).2.2.1 hfo
  have n1 := next_fwd (fmV, F, 0, ()) D (pcC false D (daV, [], 0, ())) ((plainS F D).length : Int) 0 0 (false, 0, 0, 0, [], ()) (false, []) [] o1 (by decide) (by rw [List.length_append]; omega)
    (((plainS F D).length : Int), false, 0, 0, (true, fmtPcm F), false, []) (by
      unfold chunkV
      simp only [show bodyC D (fmV, F, 0, ()) = F from rfl]
      rw [hfv]
      rfl)
  have n2 := next_fwd (daV, [], 0, ()) D [] ((plainS F D).length : Int) 0 0 (true, fmtPcm F) (false, []) [keepV (fmV, F, 0, ())] o2 (by show 1 < 1024; decide) (by rw [List.length_append]; simp only [List.length_nil]; omega)
    (((plainS F D).length : Int), false, 0, 0, (true, fmtPcm F), true, D) rfl
  rw [List.append_nil] at n2
  have e1 := loopO_next (f := fun (d : List UInt8 × (Int × Int × Int) × List UInt8 × RdD × List ChunkD) ↦ (LQ.Parse.l0 d.fst d.snd.fst d.snd.snd.fst d.snd.snd.snd.fst d.snd.snd.snd.snd).run)
    (d := (pcC false D (fmV, F, 0, ()) ++ pcC false D (daV, [], 0, ()), (0, 0, 0), [], (((plainS F D).length : Int), (riV == rfV), 0, 0, (false, 0, 0, 0, [], ()), false, []), [])) (loop_fwd _ _ (0, 0, 0) [] _ _ _ _ hne1 n1)
  have e2 := loopO_next (f := fun (d : List UInt8 × (Int × Int × Int) × List UInt8 × RdD × List ChunkD) ↦ (LQ.Parse.l0 d.fst d.snd.fst d.snd.snd.fst d.snd.snd.snd.fst d.snd.snd.snd.snd).run)
    (d := (pcC false D (daV, [], 0, ()), (0, 0, 0), [], (((plainS F D).length : Int), false, 0, 0, (true, fmtPcm F), false, []), [keepV (fmV, F, 0, ())])) (loop_fwd _ _ (0, 0, 0) [] _ _ _ _ hne2 n2)
  have e3 : loopO (fun (d : List UInt8 × (Int × Int × Int) × List UInt8 × RdD × List ChunkD) ↦ (LQ.Parse.l0 d.fst d.snd.fst d.snd.snd.fst d.snd.snd.snd.fst d.snd.snd.snd.snd).run) (([] : List UInt8), ((0, 0, 0) : Int × Int × Int), ([] : List UInt8), ((((plainS F D).length : Int), false, 0, 0, (true, fmtPcm F), true, D) : RdD), [keepV (fmV, F, 0, ()), keepV (daV, D, 0, ())]) =
    some (.inr ((0, 0, 0), [], (((plainS F D).length : Int), false, 0, 0, (true, fmtPcm F), true, D), [keepV (fmV, F, 0, ()), keepV (daV, D, 0, ())])) := loopO_done rfl
  rw [e1]
  refine (congrArg (fun o => Option.bind o _) (e2.trans e3)).trans ?_
  rw [someBind]
  simp only
  rw [hfp, end_eq _ false 0 0 C W r () D _ ⟨h3, h4⟩ ⟨by omega, h2, hW8⟩ (by omega), hDl, frame_bw hW8, Nat.mul_assoc, Nat.mul_mod_left]
  simp only [bne_self_eq_false, Bool.false_and, Bool.or_self, cond_false]
  rw [hback, someBind, someBind]
  rfl

theorem RiffPlain_law (r c w : Int) (pl : List (List Int)) (hl : PB pl) : LQ.RiffPlain (r, c, w, pl, ()) = some true := by
  have hfr := rFits_eq 1 r c w pl hl
  have hfp := Fits_eq 1 r c w pl hl
  unfold LQ.RiffPlain LQ.RiffPlain.t
  rw [Tr.run_bind, hfr, someBind, Tr.run_br]
  by_cases hz : fitsV 1 r c w pl = 0
  · have hok : pcmOk r c w pl = true ∧ w % 8 = 0 := by
      unfold fitsV at hz
      cases h : pcmOk r c w pl with
      | false => rw [h] at hz; exact absurd (show (50 : Int) = 0 from hz) (by decide)
      | true =>
        rw [h] at hz
        refine ⟨rfl, ?_⟩
        by_cases h8 : w % 8 = 0
        · exact h8
        · rw [decide_eq_false h8] at hz; exact absurd (show (4 : Int) = 0 from hz) (by decide)
    obtain ⟨W, C, hw, hc, h1, h2, h3, h4, h5, h6, h7, h8⟩ := pcmOk_parts hok.1
    obtain ⟨R, rfl⟩ : ∃ R : Nat, r = (R : Int) := ⟨r.toNat, by omega⟩
    subst hw hc
    have hW8 : W % 8 = 0 := by have := hok.2; omega
    have hP := Plain_eq R C W pl ⟨by omega, by omega⟩ ⟨h3, h4⟩ ⟨by omega, h2⟩ (by rw [hfp, hz])
    obtain ⟨hpa, hsl⟩ := Parse_plain R C W pl hl hok.1 hW8
    have hpk := Pack_eq R C W pl false ((W : Int) == 8) hl
    rw [hok.1, cond_true, Int.toNat_natCast] at hpk
    have hsame := pSame_self R C W pl () () hl.n1 hl.n2
    have hrs := rSame_self R C W pl () () hl.n1 hl.n2
    have hDb : (packV false ((W : Int) == 8) W pl).length ≤ 40000000 := by
      have hDl : (packV false ((W : Int) == 8) W pl).length = (pl.getD 0 []).length * C * bwN W := by
        rw [pack_grid false _ W pl C (by omega) h5]
        exact flat_len _ _ (fun j => smpB_len _ _ _) _
      rw [hDl]
      have hbw := bwN_bd (W := W) ⟨h1, h2⟩
      have a1 : (pl.getD 0 []).length * C ≤ 1048576 * 8 := Nat.mul_le_mul (hl.n2 0) h4
      have a2 : (pl.getD 0 []).length * C * bwN W ≤ 1048576 * 8 * 4 := Nat.mul_le_mul a1 hbw.2.1
      omega
    have hFl : (fmtT R C W).length = 16 ∨ (fmtT R C W).length = 18 ∨ (fmtT R C W).length = 40 := by
      have := (of_decide_eq_true (fmtT_ok R C W ⟨by omega, by omega⟩ ⟨h3, h4⟩ ⟨by omega, h2, hW8⟩).1).1
      omega
    obtain ⟨o1, o2⟩ := plain_ok (fmtT R C W) (packV false ((W : Int) == 8) W pl) (by omega) (by omega) hDb
    have hb := Build_run R C W pl riV (plainF (fmtT R C W) (packV false ((W : Int) == 8) W pl)) _ (plainS (fmtT R C W) (packV false ((W : Int) == 8) W pl)) (by rw [hfp, hz]) (.inl rfl) (by show 2 ≤ 1024; decide) hpk (fun i hi => by
      match i, hi with
      | 0, _ => exact o1.mono False.elim
      | 1, _ => exact o2.mono False.elim) rfl hsl hpa hsame
    rw [hz]
    simp only [bne_self_eq_false, cond_false]
    have h6s : LQ.r6_Same (riV, plainF (fmtT R C W) (packV false ((W : Int) == 8) W pl), ()) (riV, plainF (fmtT R C W) (packV false ((W : Int) == 8) W pl), ()) = some true := by
      unfold LQ.r6_Same LQ.r6_Same.t
      have := SameCh_self (plainF (fmtT R C W) (packV false ((W : Int) == 8) W pl)) (by simp [plainF])
      simp only [Tr.run_bind, Tr.run_br, Tr.run_ret, this, someBind, beq_self_eq_true, cond_true]
    have hP' : LQ.Plain ((R : Int), (C : Int), (W : Int), pl, ()) = some (riV, plainF (fmtT R C W) (packV false ((W : Int) == 8) W pl), ()) := hP
    simp only [Tr.run_bind, Tr.run_br, Tr.run_ret, hP', someBind, hb, hpa, beq_self_eq_true, cond_true, hrs, h6s]
    rfl
  · have hb : (fitsV 1 r c w pl != 0) = true := bne_iff_ne.2 hz
    have hP : LQ.Plain (r, c, w, pl, ()) = some ([], [], ()) := by
      unfold LQ.Plain LQ.Plain.t
      simp only [Tr.run_bind, Tr.run_br, Tr.run_ret, hfp, someBind, hb, cond_true]
    simp only [hb, cond_true, Tr.run_bind, Tr.run_br, Tr.run_ret, hP, someBind]
    rfl
end Go.Proofs.Ytjjeohcohhhcpaa.Dg
end

