/- RfC: RfH RfI RfJ RfK. -/
import Derived.Test.YtjjeohcohhhcpaaRfB
import Derived.Test.YtjjeohcohhhcpaaRfA
section
set_option linter.unusedVariables false
set_option linter.unusedSimpArgs false
namespace Go.LM
def toV (big : Bool) (n : Nat) : List UInt8 := bif big then (leB n 4).reverse else leB n 4
theorem toV_len (big : Bool) (n : Nat) : (toV big n).length = 4 := by cases big <;> simp [toV, leB_len]
def leastV (last : Bool) (n : Nat) : Int := bif n % 2 == 1 then (bif last then -1 else 0) else 0
def mostV (n : Nat) : Int := bif n % 2 == 1 then 255 else 0
def layBad (last : Bool) (id : List UInt8) (n : Nat) (pad : Int) : Bool := !nameV id || (decide (pad < leastV last n) || decide (pad > mostV n))
def layV (big : Bool) (id body : List UInt8) (pad : Int) : List UInt8 := id ++ (toV big body.length ++ (body ++ (bif body.length % 2 == 1 && decide (pad ≥ 0) then [UInt8.ofNat (pad % 256).toNat] else [])))
end Go.LM
namespace Go.Proofs.Ytjjeohcohhhcpaa.Dg
open Go.LM

theorem bBe_eq (n : Nat) (hn : n ≤ 1073741824) : LQ.bytes_Be n 4 = some ((leB n 4).reverse, 0) := by
  unfold LQ.bytes_Be LQ.bytes_Be.t
  have := bytes_Le_eq n 4 (by omega) (by omega) (by omega) (fun _ => by omega)
  rw [Tr.run_bind, show ((4 : Int)) = ((4 : Nat) : Int) from rfl, this, Option.bind_some, Tr.run_bind, turn_eq _ (by rw [leB_len]; omega)]
  rfl
theorem bLe_eq (n : Nat) (hn : n ≤ 1073741824) : LQ.bytes_Le n 4 = some (leB n 4, 0) := bytes_Le_eq n 4 (by omega) (by omega) (by omega) (fun _ => by omega)
theorem to_eq (n : Nat) (big : Bool) (hn : n ≤ 1073741824) : LQ.r6_to n big = some (toV big n) := by
  unfold LQ.r6_to LQ.r6_to.t toV
  have h1 : LQ.r2_Le n 4 = some (leB n 4, 0) := Le_eq n 4 (by omega) (by omega) (by omega) (fun _ => by omega)
  have h2 : LQ.r2_Be n 4 = some ((leB n 4).reverse, 0) := Be_eq n 4 (by omega) (by omega) (by omega) (fun _ => by omega)
  rw [Tr.run_bind, h1, Option.bind_some, Tr.run_bind, Tr.run_br, Tr.run_bind, h2]
  cases big <;> rfl
theorem odd_eq (n : Nat) : ((n : Int).tmod 2 == 1) = (n % 2 == 1) := by
  rw [Int.tmod_eq_emod_of_nonneg (by omega), Bool.eq_iff_iff, beq_iff_eq, beq_iff_eq]; omega

theorem lay_eq (id body : List UInt8) (pad : Int) (big last : Bool) (b : List UInt8) (h1 : body.length ≤ 1073741824) (h2 : id.length ≤ 1073741824) (h3 : b.length ≤ 1099511627776) :
    LQ.lay ((id, body, pad, ()), big, last, []) b = some (bif layBad last id body.length pad then (false, []) else (true, b ++ layV big id body pad)) := by
  have hN := name_eq id (by omega)
  have hL := bLe_eq body.length h1
  have hB := bBe_eq body.length h1
  have hl4 := leB_len body.length 4
  unfold LQ.lay LQ.lay.t layBad layV leastV mostV toV
  simp only [Int.ofNat_eq_natCast, odd_eq, Tr.run_bind, Tr.run_br, Tr.run_ret]
  cases hodd : (body.length % 2 == 1) <;> cases last <;> cases big <;> cases hnm : nameV id <;> simp only [cond_true, cond_false, Option.bind_some, hN, hnm, Bool.not_true, Bool.not_false, Bool.true_or, Bool.false_or] <;>
    (by_cases p1 : pad < -1 <;> by_cases p0 : pad < 0 <;> by_cases pm : pad > 255 <;> by_cases p00 : pad > 0 <;> first
      | (exfalso; omega)
      | (simp [p1, p0, pm, p00, Tr.run, hL, hB, hl4]; done)
      | (simp [p1, p0, pm, p00, Tr.run, hL, hB, hl4]; iterate 6 (try (split <;> try (exfalso; omega))); first | omega | exact ⟨by omega, by omega, by omega, by cases decide (0 ≤ pad) <;> simp⟩)
      | (simp [p1, p0, pm, p00, Tr.run, hL, hB, hl4]; exact ⟨by omega, by omega, by omega⟩)
      | (simp [p1, p0, pm, p00, Tr.run, hL, hB, hl4, show b.length + (id.length + (4 + body.length)) ≤ 140737488355327 by omega, show 0 ≤ pad by omega]; exact ⟨by omega, by omega, by omega⟩)
      | (simp [p1, p0, pm, p00, Tr.run, hL, hB, hl4, show b.length + (id.length + (4 + body.length)) ≤ 140737488355327 by omega, show 0 ≤ pad by omega]; done)
      | (simp [p1, p0, pm, p00, Tr.run, hL, hB, hl4, show b.length + (id.length + (4 + body.length)) ≤ 140737488355327 by omega]; exact ⟨by omega, by omega, by omega, by cases decide (0 ≤ pad) <;> simp⟩))
end Go.Proofs.Ytjjeohcohhhcpaa.Dg
end

section
set_option linter.unusedVariables false
set_option linter.unusedSimpArgs false
namespace Go.LM
def badAt (l : List ChunkD) (k : Nat) : Bool := layBad (k + 1 == l.length) (l.getD k zCh).1 (l.getD k zCh).2.1.length (l.getD k zCh).2.2.1
def layL (big : Bool) (l : List ChunkD) (k : Nat) : List UInt8 := (List.range k).flatMap fun i => layV big (l.getD i zCh).1 (l.getD i zCh).2.1 (l.getD i zCh).2.2.1
def layAll (big : Bool) (l : List ChunkD) : List UInt8 × Int := bif decide (l.length > 1024) then ([], 60) else bif (List.range l.length).all (fun k => !badAt l k) then (layL big l l.length, 0) else ([], 60)
theorem layV_len (big : Bool) (id body : List UInt8) (pad : Int) : (layV big id body pad).length ≤ id.length + body.length + 5 := by
  unfold layV
  simp only [List.length_append, toV_len]
  cases (body.length % 2 == 1 && decide (pad ≥ 0)) <;> simp <;> omega
theorem layL_len (big : Bool) (l : List ChunkD) (h : ∀ k, (l.getD k zCh).1.length ≤ 1048576 ∧ (l.getD k zCh).2.1.length ≤ 1048576) : ∀ k, (layL big l k).length ≤ k * 2097157
  | 0 => by simp [layL]
  | k + 1 => by
    have ih := layL_len big l h k
    have h1 := layV_len big (l.getD k zCh).1 (l.getD k zCh).2.1 (l.getD k zCh).2.2.1
    have h2 := h k
    unfold layL at ih ⊢
    rw [List.range_succ, List.flatMap_append, List.length_append]
    simp only [List.flatMap_cons, List.flatMap_nil, List.append_nil]
    omega
theorem layL_succ (big : Bool) (l : List ChunkD) (k : Nat) : layL big l (k + 1) = layL big l k ++ layV big (l.getD k zCh).1 (l.getD k zCh).2.1 (l.getD k zCh).2.2.1 := by
  unfold layL; rw [List.range_succ, List.flatMap_append]; simp
end Go.LM
namespace Go.Proofs.Ytjjeohcohhhcpaa.Dg
open Go.LM

theorem last_eq (l : List ChunkD) (k : Nat) (hk : k < l.length) (hl : l.length ≤ 1024) : ((k : Int) == w64 (Int.ofNat l.length - 1)) = (k + 1 == l.length) := by
  rw [w64_id (by simp only [Int.ofNat_eq_natCast]; omega), Bool.eq_iff_iff, beq_iff_eq, beq_iff_eq]; simp only [Int.ofNat_eq_natCast]; omega

theorem Lay_eq (l : List ChunkD) (big : Bool) (h : ∀ k, (l.getD k zCh).1.length ≤ 1048576 ∧ (l.getD k zCh).2.1.length ≤ 1048576) : LQ.Lay l big = some (layAll big l) := by
  unfold LQ.Lay LQ.Lay.t layAll
  rw [Tr.run_br]
  by_cases hm : l.length > 1024
  · rw [decide_eq_true hm, decide_eq_true (p := Int.ofNat l.length > 1024) (by simp only [Int.ofNat_eq_natCast]; omega)]; rfl
  · rw [decide_eq_false hm, decide_eq_false (p := Int.ofNat l.length > 1024) (by simp only [Int.ofNat_eq_natCast]; omega), cond_false, cond_false, Tr.run_bind]
    have := loopA (f := fun (d : Int × List UInt8) ↦ (LQ.Lay.l0 l big d.fst d.snd).run) (fun k => ((k : Int), layL big l k)) (fun k => !badAt l k) (.inl ([], 60)) (.inr (layL big l l.length)) l.length l.length 0 (by omega) ?_ ?_
    · have e0 : layL big l 0 = [] := rfl
      simp only [e0, Nat.zero_add] at this
      refine (congrArg (fun o => Option.bind o _) this).trans ?_
      rw [Option.bind_some]
      cases (List.range l.length).all (fun k => !badAt l k) <;> rfl
    · intro k _ hk
      have h2 := h k
      have h3 := layL_len big l h k
      simp only [LQ.Lay.l0, Int.toNat_natCast]
      rw [Tr.run_br, decide_eq_true (by simp only [Int.ofNat_eq_natCast]; omega), cond_true, Tr.run_need _ (by simp only [Int.ofNat_eq_natCast]; omega), Tr.run_bind, last_eq l k hk (by omega)]
      have e := lay_eq (l.getD k zCh).1 (l.getD k zCh).2.1 (l.getD k zCh).2.2.1 big (k + 1 == l.length) (layL big l k) (by omega) (by omega) (by omega)
      refine (congrArg (fun o => Option.bind o _) e).trans ?_
      show _ = some (bif !badAt l k then _ else _)
      unfold badAt
      cases layBad (k + 1 == l.length) (l.getD k zCh).1 (l.getD k zCh).2.1.length (l.getD k zCh).2.2.1 with
      | true => rfl
      | false =>
        rw [cond_false, Option.bind_some, Tr.run_br, Bool.not_true, cond_false, Tr.run_ret, w64_id (by omega), layL_succ]
        rfl
    · simp only [LQ.Lay.l0]
      rw [Tr.run_br, decide_eq_false (by simp only [Int.ofNat_eq_natCast]; omega), cond_false, Tr.run_ret]
end Go.Proofs.Ytjjeohcohhhcpaa.Dg
end

section
set_option linter.unusedVariables false
set_option linter.unusedSimpArgs false
namespace Go.Proofs.Ytjjeohcohhhcpaa.Dg
open Go.LM

theorem rlay_step (l : List ChunkD) (big : Bool) (k : Nat) (b : List UInt8) (hk : k < l.length) (hl : l.length ≤ 1024) (h : (l.getD k zCh).1.length ≤ 1048576 ∧ (l.getD k zCh).2.1.length ≤ 1048576) (hb : b.length ≤ 1099511627776) :
    (LQ.r6_Lay.l0 l big (k : Int) b).run = some (bif !badAt l k then .inl (((k + 1 : Nat) : Int), b ++ layV big (l.getD k zCh).1 (l.getD k zCh).2.1 (l.getD k zCh).2.2.1) else .inr (.inl ([], 60))) := by
  have hn : (0 : Int) ≤ (k : Int) ∧ (k : Int) < Int.ofNat l.length := by simp only [Int.ofNat_eq_natCast]; omega
  unfold LQ.r6_Lay.l0
  rw [Int.toNat_natCast, Tr.run_br, decide_eq_true hn.2, cond_true, Tr.run_need _ hn, last_eq l k hk hl]
  have hL := last_eq l k hk hl
  unfold badAt
  rw [show ((([] : List UInt8), ([] : List UInt8), (0 : Int), ()) : ChunkD) = zCh from rfl]
  generalize l.getD k zCh = p at h ⊢
  obtain ⟨id, body, pad, u⟩ := p
  simp only [] at h ⊢
  have hN := Id_eq id (by omega)
  have hT := to_eq body.length big (by omega)
  have hl4 := toV_len big body.length
  generalize hla : (k + 1 == l.length) = last
  unfold layBad layV leastV mostV
  simp only [Int.ofNat_eq_natCast, odd_eq, Tr.run_bind, Tr.run_br, Tr.run_ret, Tr.run_need _ hn, Tr.run_need _ (show (0 : Int) ≤ (k : Int) ∧ (k : Int) < (l.length : Int) from hn)]
  generalize hTt : toV big body.length = tt at hT hl4 ⊢
  rw [w64_id (x := (k : Int) + 1) (by omega)]
  cases hodd : (body.length % 2 == 1) <;> cases last <;> cases hnm : nameV id <;> simp only [cond_true, cond_false, Option.bind_some, hN, hnm, Bool.not_true, Bool.not_false, Bool.true_or, Bool.false_or] <;>
    (by_cases p1 : pad < -1 <;> by_cases p0 : pad < 0 <;> by_cases pm : pad > 255 <;> by_cases p00 : pad > 0 <;> first
      | (exfalso; omega)
      | (simp [p1, p0, pm, p00, Tr.run, hT, hl4]; done)
      | (simp [p1, p0, pm, p00, Tr.run, hT, hl4]; omega)
      | (simp [p1, p0, pm, p00, Tr.run, hT, hl4]; exact ⟨by omega, by omega, by omega⟩)
      | (simp [p1, p0, pm, p00, Tr.run, hT, hl4, show 0 ≤ pad by omega]; exact ⟨by omega, by omega, by omega⟩)
      | (simp [p1, p0, pm, p00, Tr.run, hT, hl4, show b.length + (id.length + (4 + body.length)) ≤ 140737488355327 by omega]; exact ⟨by omega, by omega, by omega, by cases decide (0 ≤ pad) <;> simp <;> omega⟩)
      | skip)
end Go.Proofs.Ytjjeohcohhhcpaa.Dg
end

section
set_option linter.unusedVariables false
set_option linter.unusedSimpArgs false
namespace Go.Proofs.Ytjjeohcohhhcpaa.Dg
open Go.LM

theorem rLay_eq (l : List ChunkD) (big : Bool) (h : ∀ k, (l.getD k zCh).1.length ≤ 1048576 ∧ (l.getD k zCh).2.1.length ≤ 1048576) : LQ.r6_Lay l big = some (layAll big l) := by
  unfold LQ.r6_Lay LQ.r6_Lay.t layAll
  rw [Tr.run_br]
  by_cases hm : l.length > 1024
  · rw [decide_eq_true hm, decide_eq_true (p := Int.ofNat l.length > 1024) (by simp only [Int.ofNat_eq_natCast]; omega)]; rfl
  · rw [decide_eq_false hm, decide_eq_false (p := Int.ofNat l.length > 1024) (by simp only [Int.ofNat_eq_natCast]; omega), cond_false, cond_false, Tr.run_bind]
    have := loopA (f := fun (d : Int × List UInt8) ↦ (LQ.r6_Lay.l0 l big d.fst d.snd).run) (fun k => ((k : Int), layL big l k)) (fun k => !badAt l k) (.inl ([], 60)) (.inr (layL big l l.length)) l.length l.length 0 (by omega) ?_ ?_
    · have e0 : layL big l 0 = [] := rfl
      simp only [e0, Nat.zero_add] at this
      refine (congrArg (fun o => Option.bind o _) this).trans ?_
      rw [Option.bind_some]
      cases (List.range l.length).all (fun k => !badAt l k) <;> rfl
    · intro k _ hk
      have h3 := layL_len big l h k
      rw [layL_succ]
      exact rlay_step l big k (layL big l k) hk (by omega) (h k) (by omega)
    · simp only [LQ.r6_Lay.l0]
      rw [Tr.run_br, decide_eq_false (by simp only [Int.ofNat_eq_natCast]; omega), cond_false, Tr.run_ret]

theorem chV_len (big : Bool) : ∀ (n : Nat) (s : List UInt8) (out : List ChunkD), out.length ≤ 1024 → (chV big n s out).1.length ≤ 1024
  | 0, s, out, h => h
  | n + 1, s, out, h => by
    rw [chV]
    cases s == [] with
    | true => exact h
    | false =>
      cases (takeV s big (-1)).2.2 != 0 with
      | true => exact Nat.zero_le _
      | false =>
        cases hm : out.length == 1024 with
        | true => exact Nat.zero_le _
        | false =>
          have : out.length ≠ 1024 := by simpa using hm
          exact chV_len big n _ _ (by simp; omega)

theorem RiffChunks_law (s : List UInt8) (l : List ChunkD) (big : Bool) (hs : s.length ≤ 1048576) (hl : l.length ≤ 1048576) (h : ∀ k, (l.getD k zCh).1.length ≤ 1048576 ∧ (l.getD k zCh).2.1.length ≤ 1048576) : LQ.RiffChunks s l big = some true := by
  unfold LQ.RiffChunks LQ.RiffChunks.t
  have hc := chV_len big (s.length + 1) s [] (by simp)
  rw [Tr.run_bind, Chunks_eq s big (by omega), Option.bind_some, Tr.run_bind, rChunks_eq s big (by omega), Option.bind_some, Tr.run_need _ (by omega), Tr.run_bind, Lay_eq l big h, Option.bind_some, Tr.run_bind, rLay_eq l big h, Option.bind_some, Tr.run_bind, Tr.run_bind, SameCh_self _ (by omega), Option.bind_some]
  simp only [Tr.run_br, Tr.run_bind, Tr.run_ret, beq_self_eq_true, cond_true, LQ.awake06, Option.bind_some]
end Go.Proofs.Ytjjeohcohhhcpaa.Dg
end

