/- Afb: AgL AfT AfU AfV AfW. -/
import Derived.Test.YtfblaicifdgfiaaApa
import Derived.Test.YtfblaicifdgfiaaAga
import Derived.Test.YtfblaicifdgfiaaLmH
section
set_option linter.unusedVariables false
set_option linter.unusedSimpArgs false
namespace Go.LM
open Go.Proofs.Ytfblaicifdgfiaa.Dg
theorem leB_beV (t : List UInt8) : (leB (beV t) t.length).reverse = t := by
  have h := beV_rev t.reverse
  rw [List.reverse_reverse] at h
  have h2 := leB_leV t.reverse
  rw [List.length_reverse, ← h] at h2
  rw [h2, List.reverse_reverse]
theorem nameV_len {s : List UInt8} (h : nameV s = true) : s.length = 4 := by
  unfold nameV at h
  simp only [Bool.and_eq_true, beq_iff_eq] at h
  exact h.2
theorem take_inv {s : List UInt8} {own : Int} {c : ChunkD} {rest : List UInt8} (h : takeV s true own = (c, rest, 0)) :
    8 ≤ s.length ∧ c.1 = s.take 4 ∧ nameV c.1 = true ∧ (own < 0 → (s.drop 4).take 4 = (leB c.2.1.length 4).reverse) ∧
    ((c.2.1.length % 2 = 0 ∧ c.2.2.1 = 0 ∧ s.drop 8 = c.2.1 ++ rest) ∨ (c.2.1.length % 2 = 1 ∧ c.2.2.1 = -1 ∧ rest = [] ∧ s.drop 8 = c.2.1) ∨ (c.2.1.length % 2 = 1 ∧ 0 ≤ c.2.2.1 ∧ c.2.2.1 ≤ 255 ∧ s.drop 8 = c.2.1 ++ UInt8.ofNat c.2.2.1.toNat :: rest)) := by
  unfold takeV at h
  by_cases h8 : s.length < 8
  · rw [decide_eq_true h8] at h; cases h
  rw [decide_eq_false h8, Bool.false_or] at h
  cases hn : nameV (s.take 4) with
  | false => rw [hn] at h; cases h
  | true =>
    rw [hn, Bool.not_true, cond_false] at h
    have hl4 : ((s.drop 4).take 4).length = 4 := by rw [List.length_take, List.length_drop]; omega
    have ho : own < 0 → (bif decide (own < 0) then ((numV true ((s.drop 4).take 4) : Nat) : Int) else own) = ((numV true ((s.drop 4).take 4) : Nat) : Int) := fun h => by rw [decide_eq_true h]; rfl
    have hn0 : 0 ≤ (bif decide (own < 0) then ((numV true ((s.drop 4).take 4) : Nat) : Int) else own) := by
      by_cases ho : own < 0
      · rw [decide_eq_true ho, cond_true]; omega
      · rw [decide_eq_false ho, cond_false]; omega
    generalize (bif decide (own < 0) then ((numV true ((s.drop 4).take 4) : Nat) : Int) else own) = n at h ho hn0
    by_cases hgt : n > (s.length : Int) - 8
    · rw [decide_eq_true hgt] at h; cases h
    rw [decide_eq_false hgt, cond_false] at h
    obtain ⟨N, rfl⟩ : ∃ N : Nat, n = (N : Int) := ⟨n.toNat, by omega⟩
    rw [Int.toNat_natCast] at h
    have hb : ((s.drop 8).take N).length = N := by rw [List.length_take, List.length_drop]; omega
    have hsp : s.drop 8 = (s.drop 8).take N ++ (s.drop 8).drop N := (List.take_append_drop _ _).symm
    have hhd : own < 0 → (s.drop 4).take 4 = (leB N 4).reverse := fun h => by
      have e := ho h
      have e : N = beV ((s.drop 4).take 4) := by
        have : ((N : Nat) : Int) = ((numV true ((s.drop 4).take 4) : Nat) : Int) := e
        unfold numV at this
        simp only [cond_true] at this
        omega
      have := leB_beV ((s.drop 4).take 4)
      rw [hl4, ← e] at this
      exact this.symm
    unfold padV at h
    rw [hb] at h
    cases hp : (N % 2 == 0) with
    | true =>
      rw [hp, cond_true] at h
      simp only [Prod.mk.injEq] at h
      obtain ⟨rfl, rfl, _⟩ := h
      refine ⟨by omega, rfl, hn, fun h => by simp only [hb]; exact hhd h, .inl ⟨?_, rfl, hsp⟩⟩
      simp only [hb]; exact beq_iff_eq.1 hp
    | false =>
      rw [hp, cond_false] at h
      have hp : N % 2 = 1 := by have := beq_eq_false_iff_ne.1 hp; omega
      split at h
      · rename_i hr
        simp only [Prod.mk.injEq] at h
        obtain ⟨rfl, rfl, _⟩ := h
        refine ⟨by omega, rfl, hn, fun h => by simp only [hb]; exact hhd h, .inr (.inl ⟨?_, rfl, rfl, ?_⟩)⟩
        · simp only [hb]; exact hp
        · rw [hr, List.append_nil] at hsp; exact hsp
      · rename_i b r hr
        simp only [Prod.mk.injEq] at h
        obtain ⟨rfl, rfl, _⟩ := h
        have hbt := b.toNat_lt
        refine ⟨by omega, rfl, hn, fun h => by simp only [hb]; exact hhd h, .inr (.inr ⟨?_, ?_, ?_, ?_⟩)⟩
        · simp only [hb]; exact hp
        · show (0 : Int) ≤ (b.toNat : Int); omega
        · show (b.toNat : Int) ≤ 255; omega
        · rw [hr] at hsp
          simp only [Int.toNat_natCast, UInt8.ofNat_toNat]
          exact hsp
def pc (c : ChunkD) : List UInt8 := layV true c.1 c.2.1 c.2.2.1
def okC (last : Bool) (c : ChunkD) : Bool := !layBad last c.1 c.2.1.length c.2.2.1 && decide (c.2.1.length < 4294967296)
theorem okC_iff {last : Bool} {c : ChunkD} : okC last c = true ↔ nameV c.1 = true ∧ c.2.1.length < 4294967296 ∧ (c.2.1.length % 2 = 0 → c.2.2.1 = 0) ∧ (c.2.1.length % 2 = 1 → c.2.2.1 ≤ 255 ∧ (0 ≤ c.2.2.1 ∨ (c.2.2.1 = -1 ∧ last = true))) := by
  unfold okC layBad leastV mostV
  simp only [Bool.and_eq_true, Bool.not_or, Bool.not_not, Bool.not_eq_true', decide_eq_true_eq, decide_eq_false_iff_not]
  by_cases h : c.2.1.length % 2 = 1
  · rw [show (c.2.1.length % 2 == 1) = true from beq_iff_eq.2 h]
    cases last <;> simp only [cond_true, cond_false] <;> constructor
    · rintro ⟨⟨h1, h2, h3⟩, h4⟩; exact ⟨h1, h4, fun e => by omega, fun _ => ⟨by omega, .inl (by omega)⟩⟩
    · rintro ⟨h1, h4, h2, h3⟩; obtain ⟨h5, h6⟩ := h3 h; refine ⟨⟨h1, ?_, by omega⟩, h4⟩; rcases h6 with h6 | ⟨_, h6⟩; omega; cases h6
    · rintro ⟨⟨h1, h2, h3⟩, h4⟩; exact ⟨h1, h4, fun e => by omega, fun _ => ⟨by omega, by by_cases q : 0 ≤ c.2.2.1; exact .inl q; exact .inr ⟨by omega, trivial⟩⟩⟩
    · rintro ⟨h1, h4, h2, h3⟩; obtain ⟨h5, h6⟩ := h3 h; exact ⟨⟨h1, by rcases h6 with h6 | ⟨h6, _⟩ <;> omega, by omega⟩, h4⟩
  · rw [show (c.2.1.length % 2 == 1) = false from beq_eq_false_iff_ne.2 h]
    simp only [cond_false]
    constructor
    · rintro ⟨⟨h1, h2, h3⟩, h4⟩; exact ⟨h1, h4, fun _ => by omega, fun e => absurd e h⟩
    · rintro ⟨h1, h4, h2, h3⟩; have := h2 (by omega); exact ⟨⟨h1, by omega, by omega⟩, h4⟩
theorem pc_len (c : ChunkD) (h : nameV c.1 = true) : 8 + c.2.1.length ≤ (pc c).length := by
  unfold pc layV
  simp only [List.length_append, toV_len, nameV_len h]; omega
theorem take_pc {s : List UInt8} {c : ChunkD} {rest : List UInt8} (h : takeV s true (-1) = (c, rest, 0)) (hs : s.length ≤ 1073741824) :
    s = pc c ++ rest ∧ okC (rest == []) c = true := by
  obtain ⟨h8, hid, hn, hh, ht⟩ := take_inv h
  have hs0 : s = c.1 ++ (s.drop 4).take 4 ++ s.drop 8 := by
    rw [hid, List.append_assoc, show s.drop 8 = (s.drop 4).drop 4 by rw [List.drop_drop], List.take_append_drop, List.take_append_drop]
  have hb : c.2.1.length ≤ s.length := by
    have : (s.drop 8).length ≤ s.length := by rw [List.length_drop]; omega
    rcases ht with ⟨_, _, e⟩ | ⟨_, _, _, e⟩ | ⟨_, _, _, e⟩ <;> · rw [e] at this; (try simp only [List.length_append, List.length_cons] at this); omega
  rw [hh (by decide)] at hs0
  refine ⟨?_, ?_⟩
  · conv => lhs; rw [hs0]
    unfold pc layV toV
    rw [cond_true]
    rcases ht with ⟨e1, e2, e⟩ | ⟨e1, e2, e3, e⟩ | ⟨e1, e2, e3, e⟩
    · rw [e, show (c.2.1.length % 2 == 1) = false from beq_eq_false_iff_ne.2 (by omega)]
      simp only [Bool.false_and, cond_false, List.append_nil, List.append_assoc]
    · rw [e, e3, e2]
      simp only [show decide ((-1 : Int) ≥ 0) = false from rfl, Bool.and_false, cond_false, List.append_nil, List.append_assoc]
    · rw [e, show (c.2.1.length % 2 == 1) = true from beq_iff_eq.2 e1, decide_eq_true (p := c.2.2.1 ≥ 0) e2, show c.2.2.1 % 256 = c.2.2.1 by omega]
      simp only [Bool.and_self, cond_true, List.append_assoc, List.cons_append, List.nil_append]
  · rw [okC_iff]
    rcases ht with ⟨e1, e2, e⟩ | ⟨e1, e2, e3, e⟩ | ⟨e1, e2, e3, e⟩
    · exact ⟨hn, by omega, fun _ => e2, fun q => by omega⟩
    · exact ⟨hn, by omega, fun q => by omega, fun q => ⟨by omega, .inr ⟨e2, by rw [e3]; rfl⟩⟩⟩
    · exact ⟨hn, by omega, fun q => by omega, fun q => ⟨by omega, .inl e2⟩⟩
theorem take_fwd (c : ChunkD) (more : List UInt8) (h : okC (more == []) c = true) : takeV (pc c ++ more) true (-1) = (c, more, 0) := by
  rw [okC_iff] at h
  obtain ⟨hn, hb, h0, h1⟩ := h
  obtain ⟨id, body, pad, _⟩ := c
  simp only at hn hb h0 h1
  have h4 := nameV_len hn
  have hl : ((leB body.length 4).reverse).length = 4 := by rw [List.length_reverse, leB_len]
  unfold pc layV toV
  simp only [cond_true]
  generalize hP : (bif body.length % 2 == 1 && decide (pad ≥ 0) then [UInt8.ofNat (pad % 256).toNat] else []) = P
  have e : (id ++ ((leB body.length 4).reverse ++ (body ++ P))) ++ more = id ++ ((leB body.length 4).reverse ++ (body ++ (P ++ more))) := by simp only [List.append_assoc]
  rw [e]
  have t4 : (id ++ ((leB body.length 4).reverse ++ (body ++ (P ++ more)))).take 4 = id := List.take_left' h4
  have d4 : (id ++ ((leB body.length 4).reverse ++ (body ++ (P ++ more)))).drop 4 = (leB body.length 4).reverse ++ (body ++ (P ++ more)) := List.drop_left' h4
  have d8 : (id ++ ((leB body.length 4).reverse ++ (body ++ (P ++ more)))).drop 8 = body ++ (P ++ more) := by
    rw [show 8 = 4 + 4 from rfl, ← List.drop_drop, d4]; exact List.drop_left' hl
  have t48 : ((id ++ ((leB body.length 4).reverse ++ (body ++ (P ++ more)))).drop 4).take 4 = (leB body.length 4).reverse := by rw [d4]; exact List.take_left' hl
  have hlen : (id ++ ((leB body.length 4).reverse ++ (body ++ (P ++ more)))).length = 8 + (body.length + (P.length + more.length)) := by simp only [List.length_append]; omega
  have hN : numV true (leB body.length 4).reverse = body.length := by
    unfold numV
    rw [cond_true, beV_rev]
    exact leV_leB _ _ (by omega)
  unfold takeV
  rw [t4, t48, hN, d8, hlen, hn, decide_eq_false (by omega)]
  simp only [Bool.not_true, Bool.or_false, cond_false, show decide ((-1 : Int) < 0) = true from rfl, cond_true, Int.toNat_natCast]
  rw [decide_eq_false (by omega), cond_false, List.take_left' rfl, List.drop_left' rfl]
  unfold padV
  by_cases ho : body.length % 2 = 1
  · obtain ⟨p1, p0⟩ := h1 ho
    rw [show (body.length % 2 == 0) = false from beq_eq_false_iff_ne.2 (by omega), cond_false]
    rcases p0 with p0 | ⟨p0, hm⟩
    · rw [show (body.length % 2 == 1) = true from beq_iff_eq.2 ho, decide_eq_true p0] at hP
      subst hP
      simp only [Bool.and_self, cond_true, List.cons_append, List.nil_append]
      rw [show ((UInt8.ofNat (pad % 256).toNat).toNat : Int) = pad by rw [UInt8.toNat_ofNat']; omega]
    · have hm : more = [] := beq_iff_eq.1 hm
      subst hm p0
      rw [show decide ((-1 : Int) ≥ 0) = false from rfl, Bool.and_false] at hP
      subst hP
      rfl
  · rw [show (body.length % 2 == 1) = false from beq_eq_false_iff_ne.2 ho] at hP
    subst hP
    rw [show (body.length % 2 == 0) = true from beq_iff_eq.2 (by omega), cond_true, h0 (by omega)]
    rfl
theorem fm_take {β : Type} (sk : List ChunkD) (f : ChunkD → List β) (k : Nat) (hk : k < sk.length) : (sk.take (k + 1)).flatMap f = (sk.take k).flatMap f ++ f (sk.getD k zCh) := by
  rw [List.take_add_one, List.getElem?_eq_getElem hk, getD_lt _ _ hk, List.flatMap_append]
  simp
theorem fm_le {β : Type} (sk : List ChunkD) (f : ChunkD → List β) (k : Nat) : ((sk.take k).flatMap f).length ≤ (sk.flatMap f).length := by
  conv => rhs; rw [← List.take_append_drop k sk, List.flatMap_append, List.length_append]
  omega
def okL : List ChunkD → Bool
  | [] => true
  | c :: r => okC (r == []) c && okL r
theorem pc_nil {l : List ChunkD} (h : okL l = true) (h2 : l.flatMap pc = []) : l = [] := by
  cases l with
  | nil => rfl
  | cons c r =>
    unfold okL at h
    rw [Bool.and_eq_true, okC_iff] at h
    have := pc_len c h.1.1
    rw [List.flatMap_cons] at h2
    have := congrArg List.length h2
    simp only [List.length_append, List.length_nil] at this
    omega
theorem flat_isnil {l : List ChunkD} (h : okL l = true) : (l.flatMap pc == []) = (l == []) := by
  cases l with
  | nil => rfl
  | cons c r =>
    have : ((c :: r).flatMap pc == []) = false := beq_eq_false_iff_ne.2 fun e => by cases pc_nil h e
    rw [this]; rfl
theorem chV_inv : ∀ (n : Nat) (s : List UInt8) (out l : List ChunkD), s.length < n → s.length ≤ 1073741824 → chV true n s out = (l, 0) → ∃ l', l = out ++ l' ∧ s = l'.flatMap pc ∧ okL l' = true
  | 0, s, out, l, h, _, _ => by omega
  | n + 1, s, out, l, h, hs, he => by
    rw [chV] at he
    cases hse : s == [] with
    | true =>
      rw [hse, cond_true] at he
      simp only [Prod.mk.injEq, and_true] at he
      exact ⟨[], by rw [he, List.append_nil], by rw [beq_iff_eq.1 hse]; rfl, rfl⟩
    | false =>
      rw [hse, cond_false] at he
      cases hte : (takeV s true (-1)).2.2 != 0 with
      | true =>
        rw [hte, cond_true] at he
        simp only [Prod.mk.injEq] at he
        rw [he.2] at hte; exact absurd hte (by decide)
      | false =>
        rw [hte, cond_false] at he
        cases ho : out.length == 1024 with
        | true => rw [ho, cond_true] at he; simp only [Prod.mk.injEq] at he; exact absurd he.2 (by decide)
        | false =>
          rw [ho, cond_false] at he
          have h0 : (takeV s true (-1)).2.2 = 0 := by simpa using hte
          have ht : takeV s true (-1) = ((takeV s true (-1)).1, (takeV s true (-1)).2.1, 0) := by rw [← h0]
          obtain ⟨e1, e2⟩ := take_pc ht hs
          generalize (takeV s true (-1)).1 = c at he e1 e2
          generalize (takeV s true (-1)).2.1 = rest at he e1 e2
          have hnm := (okC_iff.1 e2).1
          have hpl := pc_len c hnm
          have hl : s.length = (pc c).length + rest.length := by rw [e1, List.length_append]
          obtain ⟨l', g1, g2, g3⟩ := chV_inv n rest (out ++ [c]) l (by omega) (by omega) he
          refine ⟨c :: l', by rw [g1]; simp, by rw [List.flatMap_cons, ← g2]; exact e1, ?_⟩
          unfold okL
          rw [g3, Bool.and_true, ← flat_isnil g3, ← g2]; exact e2
theorem chV_fwd : ∀ (l : List ChunkD) (n : Nat) (out : List ChunkD), okL l = true → (l.flatMap pc).length < n → out.length + l.length ≤ 1024 → chV true n (l.flatMap pc) out = (out ++ l, 0)
  | [], n + 1, out, _, _, _ => by simp [chV]
  | [], 0, out, _, h, _ => by omega
  | c :: r, 0, out, _, h, _ => by omega
  | c :: r, n + 1, out, hok, h, ho => by
    have hok2 := hok
    unfold okL at hok2
    rw [Bool.and_eq_true] at hok2
    have hnm := (okC_iff.1 hok2.1).1
    have hpl := pc_len c hnm
    rw [List.flatMap_cons, List.length_append] at h
    rw [List.length_cons] at ho
    rw [chV, flat_isnil hok, List.flatMap_cons, take_fwd c (r.flatMap pc) (by rw [flat_isnil hok2.2]; exact hok2.1)]
    simp only [show ((c :: r) == []) = false from rfl, cond_false, show ((0 : Int) != 0) = false from rfl, show (out.length == 1024) = false from beq_eq_false_iff_ne.2 (by omega)]
    rw [chV_fwd r n (out ++ [c]) hok2.2 (by omega) (by rw [List.length_append]; simp only [List.length_cons, List.length_nil]; omega)]
    simp
theorem okL_getD : ∀ (l : List ChunkD) (k : Nat), okL l = true → k < l.length → okC (k + 1 == l.length) (l.getD k zCh) = true
  | [], k, _, h => by simp at h
  | c :: r, 0, h, _ => by
    unfold okL at h
    rw [Bool.and_eq_true] at h
    have : (0 + 1 == (c :: r).length) = (r == []) := by cases r <;> simp
    rw [this]; exact h.1
  | c :: r, k + 1, h, hk => by
    unfold okL at h
    rw [Bool.and_eq_true] at h
    have := okL_getD r k h.2 (by simpa using hk)
    rw [List.length_cons, show (k + 1 + 1 == r.length + 1) = (k + 1 == r.length) by rw [Bool.eq_iff_iff, beq_iff_eq, beq_iff_eq]; omega]
    simpa using this
theorem okL_of : ∀ (l : List ChunkD), (∀ k, k < l.length → okC (k + 1 == l.length) (l.getD k zCh) = true) → okL l = true
  | [], _ => rfl
  | c :: r, h => by
    unfold okL
    rw [Bool.and_eq_true]
    constructor
    · have := h 0 (by simp)
      have e : (0 + 1 == (c :: r).length) = (r == []) := by cases r <;> simp
      rw [e] at this; exact this
    · apply okL_of
      intro k hk
      have := h (k + 1) (by simpa using hk)
      rw [List.length_cons, show (k + 1 + 1 == r.length + 1) = (k + 1 == r.length) by rw [Bool.eq_iff_iff, beq_iff_eq, beq_iff_eq]; omega] at this
      simpa using this
theorem layL_flat (l : List ChunkD) : layL true l l.length = l.flatMap pc := by
  unfold layL
  rw [flat_getD l zCh pc]
  rfl
theorem okL_lay (l : List ChunkD) (hb : ∀ k, (l.getD k zCh).2.1.length < 4294967296) : okL l = (List.range l.length).all (fun k => !badAt l k) := by
  rw [Bool.eq_iff_iff]
  constructor
  · intro h
    rw [List.all_eq_true]
    intro k hk
    have := okL_getD l k h (List.mem_range.1 hk)
    unfold okC at this
    rw [Bool.and_eq_true] at this
    exact this.1
  · intro h
    rw [List.all_eq_true] at h
    apply okL_of
    intro k hk
    unfold okC
    rw [Bool.and_eq_true]
    exact ⟨h k (List.mem_range.2 hk), decide_eq_true (hb k)⟩
theorem body_le {l : List ChunkD} (h : okL l = true) (k : Nat) : (l.getD k zCh).2.1.length ≤ (l.flatMap pc).length := by
  by_cases hk : k < l.length
  · have h1 := okL_getD l k h hk
    have h2 := pc_len _ (okC_iff.1 h1).1
    have h3 := fm_le l pc (k + 1)
    rw [fm_take l pc k hk, List.length_append] at h3
    omega
  · rw [List.getD_eq_getElem?_getD, List.getElem?_eq_none (by omega)]; exact Nat.zero_le _
end Go.LM
end

section
set_option linter.unusedVariables false
set_option linter.unusedSimpArgs false
set_option maxRecDepth 10000
namespace Go.LM
def lg (n : Nat) : Nat := Nat.log2 n
theorem lg_uniq {n e : Nat} (h1 : 2 ^ e ≤ n) (h2 : n < 2 ^ (e + 1)) : lg n = e := by
  have hn : n ≠ 0 := by have := Nat.two_pow_pos e; omega
  have a := (Nat.le_log2 hn).2 h1
  have b := (Nat.log2_lt hn).2 h2
  unfold lg; omega
theorem lg_le {n : Nat} (h : n ≠ 0) : 2 ^ lg n ≤ n := (Nat.le_log2 h).1 (Nat.le_refl _)
theorem lg_lt {n : Nat} (h : n ≠ 0) : n < 2 ^ (lg n + 1) := (Nat.log2_lt h).1 (Nat.lt_succ_self _)
theorem lg_19 {n : Nat} (h : n ≠ 0) (h2 : n ≤ 655350) : lg n ≤ 19 := by
  have := (Nat.log2_lt (k := 20) h).2 (by omega)
  unfold lg; omega
def lenT : List UInt8 := [(0 : UInt8), (1 : UInt8), (2 : UInt8), (2 : UInt8), (3 : UInt8), (3 : UInt8), (3 : UInt8), (3 : UInt8), (4 : UInt8), (4 : UInt8), (4 : UInt8), (4 : UInt8), (4 : UInt8), (4 : UInt8), (4 : UInt8), (4 : UInt8), (5 : UInt8), (5 : UInt8), (5 : UInt8), (5 : UInt8), (5 : UInt8), (5 : UInt8), (5 : UInt8), (5 : UInt8), (5 : UInt8), (5 : UInt8), (5 : UInt8), (5 : UInt8), (5 : UInt8), (5 : UInt8), (5 : UInt8), (5 : UInt8), (6 : UInt8), (6 : UInt8), (6 : UInt8), (6 : UInt8), (6 : UInt8), (6 : UInt8), (6 : UInt8), (6 : UInt8), (6 : UInt8), (6 : UInt8), (6 : UInt8), (6 : UInt8), (6 : UInt8), (6 : UInt8), (6 : UInt8), (6 : UInt8), (6 : UInt8), (6 : UInt8), (6 : UInt8), (6 : UInt8), (6 : UInt8), (6 : UInt8), (6 : UInt8), (6 : UInt8), (6 : UInt8), (6 : UInt8), (6 : UInt8), (6 : UInt8), (6 : UInt8), (6 : UInt8), (6 : UInt8), (6 : UInt8), (7 : UInt8), (7 : UInt8), (7 : UInt8), (7 : UInt8), (7 : UInt8), (7 : UInt8), (7 : UInt8), (7 : UInt8), (7 : UInt8), (7 : UInt8), (7 : UInt8), (7 : UInt8), (7 : UInt8), (7 : UInt8), (7 : UInt8), (7 : UInt8), (7 : UInt8), (7 : UInt8), (7 : UInt8), (7 : UInt8), (7 : UInt8), (7 : UInt8), (7 : UInt8), (7 : UInt8), (7 : UInt8), (7 : UInt8), (7 : UInt8), (7 : UInt8), (7 : UInt8), (7 : UInt8), (7 : UInt8), (7 : UInt8), (7 : UInt8), (7 : UInt8), (7 : UInt8), (7 : UInt8), (7 : UInt8), (7 : UInt8), (7 : UInt8), (7 : UInt8), (7 : UInt8), (7 : UInt8), (7 : UInt8), (7 : UInt8), (7 : UInt8), (7 : UInt8), (7 : UInt8), (7 : UInt8), (7 : UInt8), (7 : UInt8), (7 : UInt8), (7 : UInt8), (7 : UInt8), (7 : UInt8), (7 : UInt8), (7 : UInt8), (7 : UInt8), (7 : UInt8), (7 : UInt8), (7 : UInt8), (7 : UInt8), (7 : UInt8), (7 : UInt8), (7 : UInt8), (8 : UInt8), (8 : UInt8), (8 : UInt8), (8 : UInt8), (8 : UInt8), (8 : UInt8), (8 : UInt8), (8 : UInt8), (8 : UInt8), (8 : UInt8), (8 : UInt8), (8 : UInt8), (8 : UInt8), (8 : UInt8), (8 : UInt8), (8 : UInt8), (8 : UInt8), (8 : UInt8), (8 : UInt8), (8 : UInt8), (8 : UInt8), (8 : UInt8), (8 : UInt8), (8 : UInt8), (8 : UInt8), (8 : UInt8), (8 : UInt8), (8 : UInt8), (8 : UInt8), (8 : UInt8), (8 : UInt8), (8 : UInt8), (8 : UInt8), (8 : UInt8), (8 : UInt8), (8 : UInt8), (8 : UInt8), (8 : UInt8), (8 : UInt8), (8 : UInt8), (8 : UInt8), (8 : UInt8), (8 : UInt8), (8 : UInt8), (8 : UInt8), (8 : UInt8), (8 : UInt8), (8 : UInt8), (8 : UInt8), (8 : UInt8), (8 : UInt8), (8 : UInt8), (8 : UInt8), (8 : UInt8), (8 : UInt8), (8 : UInt8), (8 : UInt8), (8 : UInt8), (8 : UInt8), (8 : UInt8), (8 : UInt8), (8 : UInt8), (8 : UInt8), (8 : UInt8), (8 : UInt8), (8 : UInt8), (8 : UInt8), (8 : UInt8), (8 : UInt8), (8 : UInt8), (8 : UInt8), (8 : UInt8), (8 : UInt8), (8 : UInt8), (8 : UInt8), (8 : UInt8), (8 : UInt8), (8 : UInt8), (8 : UInt8), (8 : UInt8), (8 : UInt8), (8 : UInt8), (8 : UInt8), (8 : UInt8), (8 : UInt8), (8 : UInt8), (8 : UInt8), (8 : UInt8), (8 : UInt8), (8 : UInt8), (8 : UInt8), (8 : UInt8), (8 : UInt8), (8 : UInt8), (8 : UInt8), (8 : UInt8), (8 : UInt8), (8 : UInt8), (8 : UInt8), (8 : UInt8), (8 : UInt8), (8 : UInt8), (8 : UInt8), (8 : UInt8), (8 : UInt8), (8 : UInt8), (8 : UInt8), (8 : UInt8), (8 : UInt8), (8 : UInt8), (8 : UInt8), (8 : UInt8), (8 : UInt8), (8 : UInt8), (8 : UInt8), (8 : UInt8), (8 : UInt8), (8 : UInt8), (8 : UInt8), (8 : UInt8), (8 : UInt8), (8 : UInt8), (8 : UInt8), (8 : UInt8), (8 : UInt8), (8 : UInt8), (8 : UInt8), (8 : UInt8)]
theorem lenT_eq : ∀ k : Fin 256, (lenT.getD k.1 0).toNat = if k.1 = 0 then 0 else Nat.log2 k.1 + 1 := by decide +kernel
def upN (n : Nat) : Nat := n * 2 ^ (63 - lg n)
def rateV (n : Nat) : List UInt8 := (leB (16383 + lg n) 2).reverse ++ (leB (upN n) 8).reverse
theorem upN_lt {n : Nat} (h : n ≠ 0) (h2 : n ≤ 655350) : 2 ^ 63 ≤ upN n ∧ upN n < 2 ^ 64 := by
  have h3 := lg_19 h h2
  have e : 2 ^ 63 = 2 ^ lg n * 2 ^ (63 - lg n) := by rw [← Nat.pow_add]; congr 1; omega
  have e2 : 2 ^ 64 = 2 ^ (lg n + 1) * 2 ^ (63 - lg n) := by rw [← Nat.pow_add]; congr 1; omega
  unfold upN
  rw [e, e2]
  exact ⟨Nat.mul_le_mul_right _ (lg_le h), Nat.mul_lt_mul_of_pos_right (lg_lt h) (Nat.two_pow_pos _)⟩
theorem leB_split (u : Nat) : leB (u % 4294967296) 4 ++ leB (u / 4294967296) 4 = leB u 8 := by
  apply List.ext_getElem
  · simp [leB]
  · intro i h1 h2
    simp only [leB, List.length_map, List.length_range, List.length_append] at h1 h2
    have key : ∀ a b : Nat, a % 256 = b % 256 → UInt8.ofNat a = UInt8.ofNat b := fun a b h => by rw [← ofNat_mod a, ← ofNat_mod b, h]
    rcases Nat.lt_or_ge i 4 with h | h
    · rw [List.getElem_append_left (by simpa [leB] using h)]
      simp only [leB, List.getElem_map, List.getElem_range]
      apply key
      have : i = 0 ∨ i = 1 ∨ i = 2 ∨ i = 3 := by omega
      rcases this with rfl | rfl | rfl | rfl <;> simp only [Nat.reducePow] <;> omega
    · rw [List.getElem_append_right (by simpa [leB] using h)]
      simp only [leB, List.getElem_map, List.getElem_range, List.length_map, List.length_range]
      have : i = 4 ∨ i = 5 ∨ i = 6 ∨ i = 7 := by omega
      apply key
      rcases this with rfl | rfl | rfl | rfl <;> simp only [Nat.reducePow, Nat.reduceSub] <;> omega
theorem and_mask_u (n : Nat) (hn : n < 18446744073709551616) : bitsI Go.BinOp.and Go.IntKind.u64 (n : Int) (4294967295 : Int) = ((n % 4294967296 : Nat) : Int) := by
  have h1 : (BitVec.ofInt 64 (n : Int)) = BitVec.ofNat 64 n := by apply BitVec.eq_of_toNat_eq; simp [BitVec.toNat_ofInt]
  have h2 : (BitVec.ofInt 64 (4294967295 : Int)) = BitVec.ofNat 64 (2 ^ 32 - 1) := by decide
  have key : (BitVec.ofNat 64 n &&& BitVec.ofNat 64 (2 ^ 32 - 1)).toNat = n % 4294967296 := by
    rw [BitVec.toNat_and, BitVec.toNat_ofNat, BitVec.toNat_ofNat, Nat.mod_eq_of_lt (by omega), Nat.mod_eq_of_lt (by decide), Nat.and_two_pow_sub_one_eq_mod]
  rw [← h1, ← h2] at key
  exact congrArg (fun x : Nat => (x : Int)) key
end Go.LM
namespace Go.Proofs.Ytfblaicifdgfiaa.Dg
open Go.LM
theorem bBe2_eq (n w : Nat) (h1 : 1 ≤ w) (hw : w < 8) (hn : n < 256 ^ w) : LQ.bytes_Be n w = some ((leB n w).reverse, 0) := by
  unfold LQ.bytes_Be LQ.bytes_Be.t
  have h7 : 256 ^ w ≤ 256 ^ 7 := pow256_le (by omega)
  have := bytes_Le_eq n w h1 (by omega) (by omega) (fun _ => hn)
  rw [Tr.run_bind, this, Option.bind_some, Tr.run_bind, turn_eq _ (by rw [leB_len]; omega)]
  rfl
theorem Len64_eq (n : Nat) (h : 1 ≤ n) (h2 : n ≤ 655350) : LQ.Len64 n = some (((lg n + 1 : Nat)) : Int) := by
  have tab := fun k (hk : k < 256) => lenT_eq ⟨k, hk⟩
  unfold LQ.Len64 LQ.Len64.t
  simp only [Tr.run_bind, Tr.run_br, Tr.run_ret, bifSome, bifPair, bifSame, someBind]
  have fold : ∀ k : Nat, k < 256 → (UInt8.ofNat ((k : Int) % 256).toNat).toNat = k := fun k hk => by
    rw [UInt8.toNat_ofNat']; omega
  change _ = _
  rw [show ([(0 : UInt8), (1 : UInt8), (2 : UInt8), (2 : UInt8), (3 : UInt8), (3 : UInt8), (3 : UInt8), (3 : UInt8), (4 : UInt8), (4 : UInt8), (4 : UInt8), (4 : UInt8), (4 : UInt8), (4 : UInt8), (4 : UInt8), (4 : UInt8), (5 : UInt8), (5 : UInt8), (5 : UInt8), (5 : UInt8), (5 : UInt8), (5 : UInt8), (5 : UInt8), (5 : UInt8), (5 : UInt8), (5 : UInt8), (5 : UInt8), (5 : UInt8), (5 : UInt8), (5 : UInt8), (5 : UInt8), (5 : UInt8), (6 : UInt8), (6 : UInt8), (6 : UInt8), (6 : UInt8), (6 : UInt8), (6 : UInt8), (6 : UInt8), (6 : UInt8), (6 : UInt8), (6 : UInt8), (6 : UInt8), (6 : UInt8), (6 : UInt8), (6 : UInt8), (6 : UInt8), (6 : UInt8), (6 : UInt8), (6 : UInt8), (6 : UInt8), (6 : UInt8), (6 : UInt8), (6 : UInt8), (6 : UInt8), (6 : UInt8), (6 : UInt8), (6 : UInt8), (6 : UInt8), (6 : UInt8), (6 : UInt8), (6 : UInt8), (6 : UInt8), (6 : UInt8), (7 : UInt8), (7 : UInt8), (7 : UInt8), (7 : UInt8), (7 : UInt8), (7 : UInt8), (7 : UInt8), (7 : UInt8), (7 : UInt8), (7 : UInt8), (7 : UInt8), (7 : UInt8), (7 : UInt8), (7 : UInt8), (7 : UInt8), (7 : UInt8), (7 : UInt8), (7 : UInt8), (7 : UInt8), (7 : UInt8), (7 : UInt8), (7 : UInt8), (7 : UInt8), (7 : UInt8), (7 : UInt8), (7 : UInt8), (7 : UInt8), (7 : UInt8), (7 : UInt8), (7 : UInt8), (7 : UInt8), (7 : UInt8), (7 : UInt8), (7 : UInt8), (7 : UInt8), (7 : UInt8), (7 : UInt8), (7 : UInt8), (7 : UInt8), (7 : UInt8), (7 : UInt8), (7 : UInt8), (7 : UInt8), (7 : UInt8), (7 : UInt8), (7 : UInt8), (7 : UInt8), (7 : UInt8), (7 : UInt8), (7 : UInt8), (7 : UInt8), (7 : UInt8), (7 : UInt8), (7 : UInt8), (7 : UInt8), (7 : UInt8), (7 : UInt8), (7 : UInt8), (7 : UInt8), (7 : UInt8), (7 : UInt8), (7 : UInt8), (7 : UInt8), (7 : UInt8), (8 : UInt8), (8 : UInt8), (8 : UInt8), (8 : UInt8), (8 : UInt8), (8 : UInt8), (8 : UInt8), (8 : UInt8), (8 : UInt8), (8 : UInt8), (8 : UInt8), (8 : UInt8), (8 : UInt8), (8 : UInt8), (8 : UInt8), (8 : UInt8), (8 : UInt8), (8 : UInt8), (8 : UInt8), (8 : UInt8), (8 : UInt8), (8 : UInt8), (8 : UInt8), (8 : UInt8), (8 : UInt8), (8 : UInt8), (8 : UInt8), (8 : UInt8), (8 : UInt8), (8 : UInt8), (8 : UInt8), (8 : UInt8), (8 : UInt8), (8 : UInt8), (8 : UInt8), (8 : UInt8), (8 : UInt8), (8 : UInt8), (8 : UInt8), (8 : UInt8), (8 : UInt8), (8 : UInt8), (8 : UInt8), (8 : UInt8), (8 : UInt8), (8 : UInt8), (8 : UInt8), (8 : UInt8), (8 : UInt8), (8 : UInt8), (8 : UInt8), (8 : UInt8), (8 : UInt8), (8 : UInt8), (8 : UInt8), (8 : UInt8), (8 : UInt8), (8 : UInt8), (8 : UInt8), (8 : UInt8), (8 : UInt8), (8 : UInt8), (8 : UInt8), (8 : UInt8), (8 : UInt8), (8 : UInt8), (8 : UInt8), (8 : UInt8), (8 : UInt8), (8 : UInt8), (8 : UInt8), (8 : UInt8), (8 : UInt8), (8 : UInt8), (8 : UInt8), (8 : UInt8), (8 : UInt8), (8 : UInt8), (8 : UInt8), (8 : UInt8), (8 : UInt8), (8 : UInt8), (8 : UInt8), (8 : UInt8), (8 : UInt8), (8 : UInt8), (8 : UInt8), (8 : UInt8), (8 : UInt8), (8 : UInt8), (8 : UInt8), (8 : UInt8), (8 : UInt8), (8 : UInt8), (8 : UInt8), (8 : UInt8), (8 : UInt8), (8 : UInt8), (8 : UInt8), (8 : UInt8), (8 : UInt8), (8 : UInt8), (8 : UInt8), (8 : UInt8), (8 : UInt8), (8 : UInt8), (8 : UInt8), (8 : UInt8), (8 : UInt8), (8 : UInt8), (8 : UInt8), (8 : UInt8), (8 : UInt8), (8 : UInt8), (8 : UInt8), (8 : UInt8), (8 : UInt8), (8 : UInt8), (8 : UInt8), (8 : UInt8), (8 : UInt8), (8 : UInt8), (8 : UInt8), (8 : UInt8), (8 : UInt8), (8 : UInt8), (8 : UInt8), (8 : UInt8)] : List UInt8) = lenT from rfl]
  have d0 : decide ((n : Int) ≥ 4294967296) = false := decide_eq_false (by omega)
  simp only [d0, cond_false]
  by_cases a : n ≥ 65536
  · have d1 : decide ((n : Int) ≥ 65536) = true := decide_eq_true (by omega)
    have e : (n : Int) / 65536 = ((n / 65536 : Nat) : Int) := by omega
    have d2 : decide (((n / 65536 : Nat) : Int) ≥ 256) = false := decide_eq_false (by omega)
    simp only [d1, cond_true, e, d2, cond_false]
    have hk : n / 65536 < 256 := by omega
    rw [Tr.run_need _ (by rw [fold _ hk]; simp only [Int.ofNat_eq_natCast]; omega), Tr.run_ret, fold _ hk]
    have ht := tab _ hk
    simp only at ht
    rw [if_neg (by omega)] at ht
    simp only [Int.ofNat_eq_natCast, Int.toNat_natCast]
    rw [ht]
    have hl : lg n = Nat.log2 (n / 65536) + 16 := by
      have h0 : n / 65536 ≠ 0 := by omega
      have q1 := lg_le h0
      have q2 := lg_lt h0
      unfold lg at q1 q2
      apply lg_uniq
      · rw [Nat.pow_add]; have : 2 ^ Nat.log2 (n / 65536) * 65536 ≤ n / 65536 * 65536 := Nat.mul_le_mul_right _ q1; omega
      · rw [show Nat.log2 (n / 65536) + 16 + 1 = Nat.log2 (n / 65536) + 1 + 16 by omega, Nat.pow_add]; have : (n / 65536 + 1) * 65536 ≤ 2 ^ (Nat.log2 (n / 65536) + 1) * 65536 := Nat.mul_le_mul_right _ q2; omega
    have hle := lg_19 (show n ≠ 0 by omega) h2
    rw [w64_id (x := 0 + 16) (by omega), w64_id (x := ((Nat.log2 (n / 65536) + 1 : Nat) : Int)) (by omega), w64_id (by omega), hl]
    congr 1; omega
  · have d1 : decide ((n : Int) ≥ 65536) = false := decide_eq_false (by omega)
    simp only [d1, cond_false]
    by_cases b : n ≥ 256
    · have d2 : decide ((n : Int) ≥ 256) = true := decide_eq_true (by omega)
      have e : (n : Int) / 256 = ((n / 256 : Nat) : Int) := by omega
      simp only [d2, cond_true]
      have hk : n / 256 < 256 := by omega
      rw [e, Tr.run_need _ (by rw [fold _ hk]; simp only [Int.ofNat_eq_natCast]; omega), Tr.run_ret, fold _ hk]
      have ht := tab _ hk
      simp only at ht
      rw [if_neg (by omega)] at ht
      simp only [Int.ofNat_eq_natCast, Int.toNat_natCast]
      rw [ht]
      have hl : lg n = Nat.log2 (n / 256) + 8 := by
        have h0 : n / 256 ≠ 0 := by omega
        have q1 := lg_le h0
        have q2 := lg_lt h0
        unfold lg at q1 q2
        apply lg_uniq
        · rw [Nat.pow_add]; have : 2 ^ Nat.log2 (n / 256) * 256 ≤ n / 256 * 256 := Nat.mul_le_mul_right _ q1; omega
        · rw [show Nat.log2 (n / 256) + 8 + 1 = Nat.log2 (n / 256) + 1 + 8 by omega, Nat.pow_add]; have : (n / 256 + 1) * 256 ≤ 2 ^ (Nat.log2 (n / 256) + 1) * 256 := Nat.mul_le_mul_right _ q2; omega
      have hle := lg_19 (show n ≠ 0 by omega) h2
      rw [w64_id (x := 0 + 8) (by omega), w64_id (x := ((Nat.log2 (n / 256) + 1 : Nat) : Int)) (by omega), w64_id (by omega), hl]
      congr 1; omega
    · have d2 : decide ((n : Int) ≥ 256) = false := decide_eq_false (by omega)
      simp only [d2, cond_false]
      have hk : n < 256 := by omega
      rw [Tr.run_need _ (by rw [fold _ hk]; simp only [Int.ofNat_eq_natCast]; omega), Tr.run_ret, fold _ hk]
      have ht := tab _ hk
      simp only at ht
      rw [if_neg (by omega)] at ht
      simp only [Int.ofNat_eq_natCast, Int.toNat_natCast]
      rw [ht]
      have hle := lg_19 (show n ≠ 0 by omega) h2
      unfold lg at hle ⊢
      rw [w64_id (x := ((Nat.log2 n + 1 : Nat) : Int)) (by omega), w64_id (by omega)]
      congr 1; omega
end Go.Proofs.Ytfblaicifdgfiaa.Dg
end

section
set_option linter.unusedVariables false
set_option linter.unusedSimpArgs false
set_option maxRecDepth 10000
namespace Go.LM
open Go
theorem p2_nat (k : Nat) (h : k ≤ 63) : p2 ((k : Nat) : Int) 64 = ((2 ^ k : Nat) : Int) := by
  unfold p2
  rw [Int.toNat_natCast, Nat.min_eq_left (by omega)]
theorem rateV_len (n : Nat) : (rateV n).length = 10 := by simp [rateV, leB]
theorem beV_append (a b : List UInt8) : beV (a ++ b) = beV a * 256 ^ b.length + beV b := by
  have h := beV_rev (a ++ b).reverse
  have ha := beV_rev a.reverse
  have hb := beV_rev b.reverse
  rw [List.reverse_reverse] at h ha hb
  rw [h, List.reverse_append, leV_append, ha, hb, List.length_reverse, Nat.mul_comm, Nat.add_comm]
theorem beV_leB (n k : Nat) (h : n < 256 ^ k) : beV (leB n k).reverse = n := by rw [beV_rev, leV_leB n k h]
theorem leB8 (u : Nat) : (leB u 8).reverse = (List.range 8).map fun j => UInt8.ofNat (u / 256 ^ (7 - j)) := rfl
def frC (s : List UInt8) : Nat := beV ((s.drop 2).take 4) / 2 ^ (31 - (beV (s.take 2) - 16383))
def frV (s : List UInt8) : Int × Int := bif s.length != 10 then (0, 2) else bif decide (beV (s.take 2) < 16383 ∨ 16402 < beV (s.take 2)) then (0, 3) else bif decide (1 ≤ frC s ∧ frC s ≤ 655350) && rateV (frC s) == s then ((frC s : Nat), 0) else (0, 3)
theorem rateV_beV {n : Nat} (h : 1 ≤ n) (h2 : n ≤ 655350) : beV ((rateV n).take 2) = 16383 + lg n := by
  have := lg_19 (show n ≠ 0 by omega) h2
  unfold rateV
  rw [List.take_append_of_le_length (by simp [leB]), List.take_of_length_le (by simp [leB]), beV_leB _ _ (by omega)]
end Go.LM
namespace Go.Proofs.Ytfblaicifdgfiaa.Dg
open Go.LM
theorem Rate_eq (n : Nat) (h : 1 ≤ n) (h2 : n ≤ 655350) : LQ.Rate n = some (rateV n, 0) := by
  have hl := lg_19 (show n ≠ 0 by omega) h2
  have hu := upN_lt (show n ≠ 0 by omega) h2
  have hu2 := hu.2
  unfold LQ.Rate LQ.Rate.t
  have d1 : decide ((n : Int) < 1) = false := decide_eq_false (by omega)
  have d2 : decide ((n : Int) > 655350) = false := decide_eq_false (by omega)
  have hb : LQ.bLen (Go.IntKind.u64.wrap (n : Int)) = some ((lg n + 1 : Nat) : Int) := by
    rw [u64_id (by omega)]
    unfold LQ.bLen LQ.bLen.t
    rw [Tr.run_bind, Len64_eq n h h2]; rfl
  have e1 : w64 (((lg n + 1 : Nat) : Int) - 1) = (lg n : Int) := by rw [w64_id (by omega)]; omega
  have e2 : w64 (63 - (lg n : Int)) = ((63 - lg n : Nat) : Int) := by rw [w64_id (by omega)]; omega
  have e3 : w64 (16383 + (lg n : Int)) = ((16383 + lg n : Nat) : Int) := by rw [w64_id (by omega)]; omega
  have e4 : Go.IntKind.u64.wrap (Go.IntKind.u64.wrap (n : Int) * p2 ((63 - lg n : Nat) : Int) 64) = ((upN n : Nat) : Int) := by
    rw [u64_id (x := (n : Int)) (by omega), p2_nat _ (by omega), show (n : Int) * ((2 ^ (63 - lg n) : Nat) : Int) = ((upN n : Nat) : Int) by unfold upN; simp only [Int.natCast_mul], u64_id (by omega)]
  simp only [Tr.run_bind, Tr.run_br, Tr.run_ret, d1, d2, cond_false, someBind, hb, e1, e2, e3]
  rw [Tr.run_need _ (by omega), e4]
  have e5 : w64 (((upN n : Nat) : Int) / 4294967296) = ((upN n / 4294967296 : Nat) : Int) := by rw [w64_id (by omega)]; omega
  have e6 : w64 (Go.IntKind.u64.wrap (bitsI Go.BinOp.and Go.IntKind.u64 ((upN n : Nat) : Int) 4294967295)) = ((upN n % 4294967296 : Nat) : Int) := by
    rw [and_mask_u _ (by omega), u64_id (by omega), w64_id (by omega)]
  have b1 := bBe2_eq (16383 + lg n) 2 (by omega) (by omega) (by omega)
  have b2 := bBe2_eq (upN n / 4294967296) 4 (by omega) (by omega) (by omega)
  have b3 := bBe2_eq (upN n % 4294967296) 4 (by omega) (by omega) (by omega)
  simp only [Int.cast_ofNat_Int] at b1 b2 b3
  simp only [Tr.run_bind, e5, e6, b1, b2, b3, someBind]
  rw [Tr.run_need _ (by simp [leB]), Tr.run_need _ (by simp [leB]), Tr.run_ret]
  have : ((leB (16383 + lg n) 2).reverse.append (leB (upN n / 4294967296) 4).reverse).append (leB (upN n % 4294967296) 4).reverse = rateV n := by
    unfold rateV
    rw [← leB_split (upN n), List.reverse_append]
    simp only [List.append_eq, List.append_assoc]
  rw [this]
theorem Rate_bad (n : Int) (h : n < 1 ∨ 655350 < n) : LQ.Rate n = some ([], 11) := by
  unfold LQ.Rate LQ.Rate.t
  have d : (decide (n < 1) || decide (n > 655350)) = true := by
    rcases h with h | h
    · rw [decide_eq_true h]; rfl
    · rw [decide_eq_true (p := n > 655350) h, Bool.or_true]
  simp only [Tr.run_bind, Tr.run_br, Tr.run_ret, bifSome, bifOr2, someBind, d, cond_true]
theorem r2_Rate_bad (n : Int) (h : n < 1 ∨ 655350 < n) : LQ.r2_Rate n = some ([], 11) := by
  unfold LQ.r2_Rate LQ.r2_Rate.t
  have d : (decide (n < 1) || decide (n > 655350)) = true := by
    rcases h with h | h
    · rw [decide_eq_true h]; rfl
    · rw [decide_eq_true (p := n > 655350) h, Bool.or_true]
  simp only [Tr.run_bind, Tr.run_br, Tr.run_ret, bifSome, bifOr2, someBind, d, cond_true]
theorem r2_Rate_eq (n : Nat) (h : 1 ≤ n) (h2 : n ≤ 655350) : LQ.r2_Rate n = some (rateV n, 0) := by
  have hl := lg_19 (show n ≠ 0 by omega) h2
  have hu := upN_lt (show n ≠ 0 by omega) h2
  have hu2 := hu.2
  unfold LQ.r2_Rate LQ.r2_Rate.t
  have d1 : decide ((n : Int) < 1) = false := decide_eq_false (by omega)
  have d2 : decide ((n : Int) > 655350) = false := decide_eq_false (by omega)
  have hlo : loopO (fun (d : Int) ↦ (LQ.r2_Rate.l0 n d).run) (0 : Int) = some (lg n : Int) := by
    have := loopO_steps (f := fun (d : Int) ↦ (LQ.r2_Rate.l0 n d).run) (fun k => (k : Int)) (r := (lg n : Int)) (lg n) ?_ ?_
    · exact this
    · intro k hk
      simp only [LQ.r2_Rate.l0]
      have e1 : w64 ((k : Int) + 1) = ((k + 1 : Nat) : Int) := by rw [w64_id (by omega)]; omega
      have hp : 2 ^ (k + 1) ≤ n := Nat.le_trans (Nat.pow_le_pow_right (by decide) (by omega)) (lg_le (show n ≠ 0 by omega))
      rw [e1, u64_id (by omega), Tr.run_need _ (by omega), p2_nat _ (by omega)]
      generalize 2 ^ (k + 1) = P at hp
      rw [w64_id (x := (1 : Int) * (P : Int)) (by omega), Tr.run_br, decide_eq_true (by omega), cond_true]
      rfl
    · simp only [LQ.r2_Rate.l0]
      have e1 : w64 ((lg n : Int) + 1) = ((lg n + 1 : Nat) : Int) := by rw [w64_id (by omega)]; omega
      have hp : n < 2 ^ (lg n + 1) := lg_lt (show n ≠ 0 by omega)
      have hp2 : 2 ^ (lg n + 1) ≤ 2 ^ 20 := Nat.pow_le_pow_right (by decide) (by omega)
      rw [e1, u64_id (by omega), Tr.run_need _ (by omega), p2_nat _ (by omega)]
      generalize 2 ^ (lg n + 1) = P at hp hp2
      rw [w64_id (x := (1 : Int) * (P : Int)) (by omega), Tr.run_br, decide_eq_false (by omega), cond_false]
      rfl
  have e2 : Go.IntKind.u64.wrap (w64 (63 - (lg n : Int))) = ((63 - lg n : Nat) : Int) := by rw [w64_id (by omega), u64_id (by omega)]; omega
  have e3 : w64 (16383 + (lg n : Int)) = ((16383 + lg n : Nat) : Int) := by rw [w64_id (by omega)]; omega
  have e4 : Go.IntKind.u64.wrap (Go.IntKind.u64.wrap (n : Int) * p2 ((63 - lg n : Nat) : Int) 64) = ((upN n : Nat) : Int) := by
    rw [u64_id (x := (n : Int)) (by omega), p2_nat _ (by omega), show (n : Int) * ((2 ^ (63 - lg n) : Nat) : Int) = ((upN n : Nat) : Int) by unfold upN; simp only [Int.natCast_mul], u64_id (by omega)]
  have b1 := Be_eq (16383 + lg n) 2 (by omega) (by omega) (by omega) (by omega)
  simp only [Int.cast_ofNat_Int] at b1
  simp only [Tr.run_bind, Tr.run_br, Tr.run_ret, d1, d2, cond_false, someBind, hlo, e2, e3, b1]
  rw [Tr.run_need _ (by omega), Tr.run_bind]
  have hlp : loopO (fun (d : Int × List UInt8) ↦ (LQ.r2_Rate.l1 n (lg n) d.fst d.snd).run) ((7 : Int), (leB (16383 + lg n) 2).reverse) = some (rateV n) := by
    have := loopO_steps (f := fun (d : Int × List UInt8) ↦ (LQ.r2_Rate.l1 n (lg n) d.fst d.snd).run) (fun k => ((7 : Int) - (k : Int), (leB (16383 + lg n) 2).reverse ++ (List.range k).map fun j => UInt8.ofNat (upN n / 256 ^ (7 - j)))) (r := rateV n) 8 ?_ ?_
    · simpa using this
    · intro k hk
      simp only [LQ.r2_Rate.l1, e2, e4]
      have e5 : Go.IntKind.u64.wrap (w64 (8 * ((7 : Int) - (k : Int)))) = ((8 * (7 - k) : Nat) : Int) := by rw [w64_id (by omega), u64_id (by omega)]; omega
      rw [e5, Tr.run_br, decide_eq_true (by omega), cond_true, Tr.run_need _ (by omega), p2_8 _ (by omega), Tr.run_need _ (by simp [leB]; omega), Tr.run_ret, w64_id (by omega), byte_div, ofNat_mod]
      have e6 : (7 : Int) - (k : Int) - 1 = 7 - ((k + 1 : Nat) : Int) := by omega
      rw [e6, List.range_succ, List.map_append, ← List.append_assoc]
      rfl
    · simp only [LQ.r2_Rate.l1]
      rw [Tr.run_br, decide_eq_false (by omega), cond_false, Tr.run_ret, ← leB8]
      rfl
  rw [Option.bind_some, Tr.run_bind, hlp]
  rfl
theorem FromRate_eq (s : List UInt8) : LQ.FromRate s = some (frV s) := by
  unfold LQ.FromRate LQ.FromRate.t frV
  by_cases hs : s.length = 10
  · have d0 : (Int.ofNat s.length != (10 : Int)) = false := by rw [hs]; rfl
    have d0' : (s.length != 10) = false := by rw [hs]; rfl
    have h2 : (s.take 2).length = 2 := by rw [List.length_take]; omega
    have hb := beV_lt (s.take 2)
    rw [h2] at hb
    have h4 : ((s.drop 2).take 4).length = 4 := by rw [List.length_take, List.length_drop]; omega
    have hc := beV_lt ((s.drop 2).take 4)
    rw [h4] at hc
    have f1 := bFromBe_eq (s.take 2) (by omega)
    have f2 := bFromBe_eq ((s.drop 2).take 4) (by omega)
    rw [Tr.run_br, d0, d0', cond_false, cond_false, Tr.run_need _ (by simp only [Int.ofNat_eq_natCast]; omega)]
    simp only [List.drop_zero, Tr.run_bind, f1, someBind, Tr.run_br, Tr.run_ret, bifSome, bifOr2]
    generalize hE : beV (s.take 2) = E at hb
    have e1 : w64 ((E : Int) - 16383) = (E : Int) - 16383 := by rw [w64_id (by omega)]
    rw [e1]
    by_cases hr : E < 16383 ∨ 16383 + 31 < E
    · have d1 : (decide ((E : Int) - 16383 < 0) || decide ((E : Int) - 16383 > 31)) = true := by
        rcases hr with h | h
        · rw [decide_eq_true (p := (E : Int) - 16383 < 0) (by omega)]; rfl
        · rw [decide_eq_true (p := (E : Int) - 16383 > 31) (by omega), Bool.or_true]
      rw [d1, cond_true, decide_eq_true (p := E < 16383 ∨ 16402 < E) (by omega), cond_true]
    · have d1 : (decide ((E : Int) - 16383 < 0) || decide ((E : Int) - 16383 > 31)) = false := by
        rw [decide_eq_false (p := (E : Int) - 16383 < 0) (by omega), decide_eq_false (p := (E : Int) - 16383 > 31) (by omega)]; rfl
      have e2 : w64 (31 - ((E : Int) - 16383)) = ((31 - (E - 16383) : Nat) : Int) := by rw [w64_id (by omega)]; omega
      rw [d1, cond_false, Tr.run_need _ (by simp only [Int.ofNat_eq_natCast]; omega)]
      simp only [Tr.run_bind, f2, someBind, e2]
      rw [Tr.run_need _ (by omega), p2_nat _ (by omega)]
      have hq : ((beV ((s.drop 2).take 4) : Nat) : Int) / ((2 ^ (31 - (E - 16383)) : Nat) : Int) = ((frC s : Nat) : Int) := by
        unfold frC; rw [hE]; rfl
      simp only [hq, Tr.run_bind]
      by_cases hg : 1 ≤ frC s ∧ frC s ≤ 655350
      · rw [Rate_eq _ hg.1 hg.2, Option.bind_some, decide_eq_true hg, Bool.true_and]
        simp only [Tr.run_br, Tr.run_ret, bifSome]
        have key : rateV (frC s) = s → ¬(E < 16383 ∨ 16402 < E) := fun e => by
          have h1 := rateV_beV hg.1 hg.2
          rw [e, hE] at h1
          have := lg_19 (show frC s ≠ 0 by omega) hg.2
          omega
        cases hx : rateV (frC s) == s with
        | true => rw [decide_eq_false (key (beq_iff_eq.1 hx))]; rfl
        | false => cases decide (E < 16383 ∨ 16402 < E) <;> rfl
      · rw [Rate_bad _ (by omega), Option.bind_some, decide_eq_false hg, Bool.false_and]
        simp only [Tr.run_br, Tr.run_ret, bifSome]
        cases decide (E < 16383 ∨ 16402 < E) <;> rfl
  · have d0 : (Int.ofNat s.length != (10 : Int)) = true := by simp; omega
    have d0' : (s.length != 10) = true := by simpa using hs
    rw [Tr.run_br, d0, d0']; rfl
theorem r2_FromRate_eq (s : List UInt8) : LQ.r2_FromRate s = some (frV s) := by
  unfold LQ.r2_FromRate LQ.r2_FromRate.t frV
  by_cases hs : s.length = 10
  · have d0 : (Int.ofNat s.length != (10 : Int)) = false := by rw [hs]; rfl
    have d0' : (s.length != 10) = false := by rw [hs]; rfl
    have h2 : (s.take 2).length = 2 := by rw [List.length_take]; omega
    have hb := beV_lt (s.take 2)
    rw [h2] at hb
    have f1 := FromBe_eq (s.take 2) (by omega)
    rw [Tr.run_br, d0, d0', cond_false, cond_false, Tr.run_need _ (by simp only [Int.ofNat_eq_natCast]; omega)]
    simp only [List.drop_zero, Tr.run_bind, f1, someBind, Tr.run_br, Tr.run_ret, bifSome, bifOr2]
    generalize hE : beV (s.take 2) = E at hb
    have e1 : w64 ((E : Int) - 16383) = (E : Int) - 16383 := by rw [w64_id (by omega)]
    rw [e1]
    by_cases hr : E < 16383 ∨ 16402 < E
    · have d1 : (decide ((E : Int) - 16383 < 0) || decide ((E : Int) - 16383 > 19)) = true := by
        rcases hr with h | h
        · rw [decide_eq_true (p := (E : Int) - 16383 < 0) (by omega)]; rfl
        · rw [decide_eq_true (p := (E : Int) - 16383 > 19) (by omega), Bool.or_true]
      rw [d1, cond_true, decide_eq_true hr, cond_true]
    · have d1 : (decide ((E : Int) - 16383 < 0) || decide ((E : Int) - 16383 > 19)) = false := by
        rw [decide_eq_false (p := (E : Int) - 16383 < 0) (by omega), decide_eq_false (p := (E : Int) - 16383 > 19) (by omega)]; rfl
      rw [d1, cond_false, decide_eq_false hr, cond_false]
      have hU := beV_lt (s.drop 2)
      rw [List.length_drop, hs] at hU
      have hlo : loopO (fun (d : Int × Int) ↦ (LQ.r2_FromRate.l0 s d.fst d.snd).run) ((0 : Int), (2 : Int)) = some ((beV (s.drop 2) : Nat) : Int) := by
        have := loopO_steps (f := fun (d : Int × Int) ↦ (LQ.r2_FromRate.l0 s d.fst d.snd).run) (fun k => (((beV ((s.drop 2).take k) : Nat) : Int), (k : Int) + 2)) (r := ((beV (s.drop 2) : Nat) : Int)) 8 ?_ ?_
        · simpa [beV] using this
        · intro k hk
          simp only [LQ.r2_FromRate.l0]
          have h1 : beV ((s.drop 2).take k) < 256 ^ 7 := Nat.lt_of_lt_of_le (beV_lt _) (pow256_le (by rw [List.length_take]; omega))
          have h2 := ((s.drop 2).getD k 0).toNat_lt
          have hg : s.getD (k + 2) 0 = (s.drop 2).getD k 0 := by rw [List.getD_eq_getElem?_getD, List.getD_eq_getElem?_getD, List.getElem?_drop, Nat.add_comm]
          rw [Tr.run_br, decide_eq_true (by omega), cond_true, Tr.run_need _ (by simp only [Int.ofNat_eq_natCast]; omega), Tr.run_ret, w64_id (x := (k : Int) + 2 + 1) (by omega), show ((k : Int) + 2).toNat = k + 2 by omega, hg]
          simp only [Int.ofNat_eq_natCast]
          rw [u64_id (x := (((s.drop 2).getD k 0).toNat : Int)) (by omega), u64_id (x := (beV ((s.drop 2).take k) : Int) * 256) (by omega), u64_id (by omega), beV_take (s.drop 2) k (by rw [List.length_drop]; omega)]
          have e9 : (k : Int) + 2 + 1 = ((k + 1 : Nat) : Int) + 2 := by omega
          rw [e9]
          simp only [Int.natCast_add, Int.natCast_mul]; rfl
        · simp only [LQ.r2_FromRate.l0]
          rw [Tr.run_br, decide_eq_false (by omega), cond_false, Tr.run_ret, List.take_of_length_le (by rw [List.length_drop]; omega)]
      have e2 : Go.IntKind.u64.wrap (w64 (63 - ((E : Int) - 16383))) = ((63 - (E - 16383) : Nat) : Int) := by rw [w64_id (by omega), u64_id (by omega)]; omega
      simp only [hlo, someBind, e2]
      rw [Tr.run_need _ (by omega), p2_nat _ (by omega)]
      have hq : ((beV (s.drop 2) : Nat) : Int) / ((2 ^ (63 - (E - 16383)) : Nat) : Int) = ((frC s : Nat) : Int) := by
        unfold frC; rw [hE]
        have e3 : beV (s.drop 2) = beV ((s.drop 2).take 4) * 4294967296 + beV ((s.drop 2).drop 4) := by
          conv => lhs; rw [← List.take_append_drop 4 (s.drop 2)]
          rw [beV_append, List.length_drop, List.length_drop, hs]
        have hlow := beV_lt ((s.drop 2).drop 4)
        rw [List.length_drop, List.length_drop, hs] at hlow
        have e4 : beV (s.drop 2) / 4294967296 = beV ((s.drop 2).take 4) := by omega
        have e5 : 63 - (E - 16383) = 32 + (31 - (E - 16383)) := by omega
        rw [e5, Nat.pow_add, ← e4, show (2 : Nat) ^ 32 = 4294967296 from rfl, Nat.div_div_eq_div_mul]
        rfl
      have hle : frC s < 4294967296 := by
        unfold frC
        refine Nat.lt_of_le_of_lt (Nat.div_le_self _ _) (Nat.lt_of_lt_of_le (beV_lt _) ?_)
        exact pow256_le (k := ((s.drop 2).take 4).length) (n := 4) (by rw [List.length_take]; omega)
      have hw : w64 ((frC s : Nat) : Int) = ((frC s : Nat) : Int) := w64_id (by omega)
      simp only [hq, hw, Tr.run_bind]
      by_cases hg : 1 ≤ frC s ∧ frC s ≤ 655350
      · rw [r2_Rate_eq _ hg.1 hg.2, Option.bind_some, decide_eq_true hg, Bool.true_and]
        simp only [Tr.run_br, Tr.run_ret, bifSome]
        cases hx : rateV (frC s) == s with
        | true => rfl
        | false => rfl
      · rw [r2_Rate_bad _ (by omega), Option.bind_some, decide_eq_false hg, Bool.false_and]
        simp only [Tr.run_br, Tr.run_ret, bifSome]
        rfl
  · have d0 : (Int.ofNat s.length != (10 : Int)) = true := by simp; omega
    have d0' : (s.length != 10) = true := by simpa using hs
    rw [Tr.run_br, d0, d0']; rfl
theorem frV_good {s : List UInt8} (h : (frV s).2 = 0) : ∃ n : Nat, 1 ≤ n ∧ n ≤ 655350 ∧ s = rateV n ∧ (frV s).1 = n := by
  unfold frV at h ⊢
  cases h1 : s.length != 10 with
  | true => rw [h1, cond_true] at h; exact absurd h (by decide)
  | false =>
    rw [h1, cond_false] at h
    cases h2 : decide (beV (s.take 2) < 16383 ∨ 16402 < beV (s.take 2)) with
    | true => rw [h2, cond_true] at h; exact absurd h (by decide)
    | false =>
      rw [h2, cond_false] at h
      cases h3 : decide (1 ≤ frC s ∧ frC s ≤ 655350) && rateV (frC s) == s with
      | false => rw [h3, cond_false] at h; exact absurd h (by decide)
      | true =>
        have := h3
        rw [Bool.and_eq_true] at this
        have hd := of_decide_eq_true this.1
        exact ⟨frC s, hd.1, hd.2, (beq_iff_eq.1 this.2).symm, rfl⟩
theorem frV_rate {n : Nat} (h : 1 ≤ n) (h2 : n ≤ 655350) : frV (rateV n) = ((n : Int), 0) := by
  have hl := lg_19 (show n ≠ 0 by omega) h2
  have hu := upN_lt (show n ≠ 0 by omega) h2
  have hb := rateV_beV h h2
  have hc : frC (rateV n) = n := by
    unfold frC
    rw [hb]
    have e0 : ((rateV n).drop 2).take 4 = (leB (upN n / 4294967296) 4).reverse := by
      unfold rateV
      rw [List.drop_append_of_le_length (by simp [leB]), List.drop_of_length_le (by simp [leB]), List.nil_append, ← leB_split (upN n), List.reverse_append, List.take_append_of_le_length (by simp [leB]), List.take_of_length_le (by simp [leB])]
    rw [e0, beV_leB _ _ (by omega), show 16383 + lg n - 16383 = lg n by omega]
    have e1 : (4294967296 : Nat) * 2 ^ (31 - lg n) = 2 ^ (63 - lg n) := by
      rw [show (4294967296 : Nat) = 2 ^ 32 from rfl, ← Nat.pow_add]; congr 1; omega
    rw [Nat.div_div_eq_div_mul, e1]
    unfold upN
    exact Nat.mul_div_cancel _ (Nat.two_pow_pos _)
  unfold frV
  rw [hb, hc, rateV_len, decide_eq_false (p := 16383 + lg n < 16383 ∨ 16402 < 16383 + lg n) (by omega), decide_eq_true (p := 1 ≤ n ∧ n ≤ 655350) ⟨h, h2⟩, beq_self_eq_true]
  rfl
end Go.Proofs.Ytfblaicifdgfiaa.Dg
end

section
set_option linter.unusedVariables false
set_option linter.unusedSimpArgs false
set_option maxRecDepth 10000
namespace Go.LM
open Go
def ixL (id : List UInt8) : List ChunkD → Nat → Int
  | [], _ => -1
  | c :: r, k => bif c.1 == id then (k : Int) else ixL id r (k + 1)
def ctL (id : List UInt8) : List ChunkD → Nat
  | [] => 0
  | c :: r => (bif c.1 == id then 1 else 0) + ctL id r
def laL (id : List UInt8) : List ChunkD → Nat → Int → Int
  | [], _, a => a
  | c :: r, k, a => laL id r (k + 1) (bif c.1 == id then (k : Int) else a)
theorem ctL_append (id : List UInt8) : ∀ (a b : List ChunkD), ctL id (a ++ b) = ctL id a + ctL id b
  | [], b => by simp [ctL]
  | c :: r, b => by simp only [List.cons_append, ctL, ctL_append id r b]; omega
theorem ixL_none (id : List UInt8) : ∀ (l : List ChunkD) (k : Nat), ctL id l = 0 → ixL id l k = -1
  | [], _, _ => rfl
  | c :: r, k, h => by
    simp only [ctL, ixL] at h ⊢
    cases hc : c.1 == id with
    | true => rw [hc, cond_true] at h; omega
    | false => rw [hc, cond_false] at h; rw [cond_false, ixL_none id r (k + 1) (by omega)]
theorem ixL_some (id : List UInt8) : ∀ (l : List ChunkD) (k : Nat), 1 ≤ ctL id l → ∃ pre c post, l = pre ++ c :: post ∧ c.1 = id ∧ ctL id pre = 0 ∧ ixL id l k = ((k + pre.length : Nat) : Int)
  | [], _, h => absurd h (by simp [ctL])
  | c :: r, k, h => by
    simp only [ctL, ixL] at h ⊢
    cases hc : c.1 == id with
    | true => exact ⟨[], c, r, rfl, beq_iff_eq.1 hc, rfl, rfl⟩
    | false =>
      rw [hc, cond_false] at h
      obtain ⟨pre, d, post, e1, e2, e3, e4⟩ := ixL_some id r (k + 1) (by omega)
      refine ⟨c :: pre, d, post, by rw [e1]; rfl, e2, by simp only [ctL, hc, cond_false, e3], ?_⟩
      rw [cond_false, e4, List.length_cons]
      congr 1; omega
theorem laL_none (id : List UInt8) : ∀ (l : List ChunkD) (k : Nat) (a : Int), ctL id l = 0 → laL id l k a = a
  | [], _, _, _ => rfl
  | c :: r, k, a, h => by
    simp only [ctL, laL] at h ⊢
    cases hc : c.1 == id with
    | true => rw [hc, cond_true] at h; omega
    | false => rw [hc, cond_false] at h; rw [cond_false, laL_none id r (k + 1) a (by omega)]
theorem laL_one (id : List UInt8) : ∀ (l : List ChunkD) (k : Nat) (a : Int), ctL id l = 1 → laL id l k a = ixL id l k
  | [], _, _, h => absurd h (by simp [ctL])
  | c :: r, k, a, h => by
    simp only [ctL, laL, ixL] at h ⊢
    cases hc : c.1 == id with
    | true => rw [hc, cond_true] at h; rw [cond_true, cond_true, laL_none id r (k + 1) _ (by omega)]
    | false => rw [hc, cond_false] at h; rw [cond_false, cond_false, laL_one id r (k + 1) _ (by omega)]
theorem getD_mid {α : Type} (pre : List α) (c : α) (post : List α) (z : α) : (pre ++ c :: post).getD pre.length z = c := by
  rw [List.getD_eq_getElem?_getD, List.getElem?_append_right (Nat.le_refl _), Nat.sub_self]; rfl
theorem set_mid {α : Type} (pre : List α) (c x : α) (post : List α) : (pre ++ c :: post).set pre.length x = pre ++ x :: post := by
  rw [List.set_append_right _ _ (Nat.le_refl _), Nat.sub_self]; rfl
theorem drop_cons {α : Type} {l r : List α} {c : α} {k : Nat} (h : l.drop k = c :: r) (z : α) : k < l.length ∧ l.getD k z = c ∧ l.drop (k + 1) = r := by
  have hk : k < l.length := by
    by_cases hk : k < l.length
    · exact hk
    · rw [List.drop_of_length_le (by omega)] at h; cases h
  rw [List.drop_eq_getElem_cons hk] at h
  simp only [List.cons.injEq] at h
  exact ⟨hk, by rw [getD_lt _ _ hk]; exact h.1, h.2⟩
theorem drop_nil {α : Type} {l : List α} {k : Nat} (h : l.drop k = []) : l.length ≤ k := List.drop_eq_nil_iff.1 h
end Go.LM
namespace Go.Proofs.Ytfblaicifdgfiaa.Dg
open Go.LM
theorem ix_loop (l : List ChunkD) (id : List UInt8) (hl : l.length ≤ 1099511627776) : ∀ (r : List ChunkD) (k : Nat), l.drop k = r → k ≤ l.length →
    loopO (fun (d : Int × List UInt8) ↦ (LQ.IndexFunc.l0 l d.fst d.snd).run) ((k : Int), id) = some (bif ctL id r == 0 then .inr id else .inl (ixL id r k, id))
  | [], k, h, hk => by
    have := drop_nil h
    refine loopO_done ?_
    simp only [LQ.IndexFunc.l0]
    rw [Tr.run_br, decide_eq_false (by simp only [Int.ofNat_eq_natCast]; omega), cond_false, Tr.run_ret]
    rfl
  | c :: r, k, h, hk => by
    obtain ⟨h1, h2, h3⟩ := drop_cons h ([], [], (0 : Int), ())
    have hs : (LQ.IndexFunc.l0 l (k : Int) id).run = some (bif c.1 == id then .inr (.inl ((k : Int), id)) else .inl ((k : Int) + 1, id)) := by
      unfold LQ.IndexFunc.l0 LQ.only1 LQ.only1.t
      rw [Tr.run_br, decide_eq_true (by simp only [Int.ofNat_eq_natCast]; omega), cond_true, Tr.run_need _ (by simp only [Int.ofNat_eq_natCast]; omega), Int.toNat_natCast, h2]
      simp only [Tr.run_bind, Tr.run_br, Tr.run_ret, someBind, bifSome]
      rw [w64_id (by omega)]
    cases hc : c.1 == id with
    | true =>
      rw [hc, cond_true] at hs
      rw [loopO_done hs]
      simp only [ctL, ixL, hc, cond_true]
      have : (1 + ctL id r == 0) = false := by rw [beq_eq_false_iff_ne]; omega
      rw [this]; rfl
    | false =>
      rw [hc, cond_false] at hs
      rw [loopO_next hs]
      have ih := ix_loop l id hl r (k + 1) h3 (by omega)
      simp only [ctL, ixL, hc, cond_false, Nat.zero_add]
      exact ih
theorem IndexFunc_eq (l : List ChunkD) (id : List UInt8) (hl : l.length ≤ 1099511627776) : LQ.IndexFunc l id = some (ixL id l 0, id) := by
  unfold LQ.IndexFunc LQ.IndexFunc.t
  have h := ix_loop l id hl l 0 rfl (by omega)
  rw [show ((0 : Nat) : Int) = 0 from rfl] at h
  rw [Tr.run_bind, h, Option.bind_some]
  cases hc : ctL id l == 0 with
  | true => rw [ixL_none id l 0 (beq_iff_eq.1 hc)]; rfl
  | false => rfl
theorem only_eq (l : List ChunkD) (id : List UInt8) (hl : l.length ≤ 1099511627776) : LQ.only l id = some (ixL id l 0, decide (ctL id l ≤ 1)) := by
  unfold LQ.only LQ.only.t
  rw [Tr.run_bind, IndexFunc_eq l id hl, Option.bind_some]
  by_cases hc : ctL id l = 0
  · simp only [Tr.run_bind, Tr.run_br, ixL_none id l 0 hc]
    rw [decide_eq_true (p := ((-1 : Int) < 0)) (by omega), cond_true, Tr.run_ret, Option.bind_some, Tr.run_ret, decide_eq_true (by omega)]
  · obtain ⟨pre, c, post, e1, e2, e3, e4⟩ := ixL_some id l 0 (by omega)
    have hlen : l.length = pre.length + 1 + post.length := by rw [e1, List.length_append, List.length_cons]; omega
    rw [e4, Nat.zero_add]
    have d0 : decide (((pre.length : Nat) : Int) < 0) = false := decide_eq_false (by omega)
    have e5 : w64 ((pre.length : Int) + 1) = ((pre.length + 1 : Nat) : Int) := by rw [w64_id (by omega)]; omega
    simp only [Tr.run_bind, Tr.run_br, d0, cond_false, e5]
    rw [Tr.run_need _ (by simp only [Int.ofNat_eq_natCast]; omega)]
    have e6 : List.take (Int.ofNat l.length - ((pre.length + 1 : Nat) : Int)).toNat (List.drop ((pre.length + 1 : Nat) : Int).toNat l) = post := by
      rw [Int.toNat_natCast, e1, List.take_of_length_le (by rw [List.length_drop, ← e1]; simp only [Int.ofNat_eq_natCast]; omega), show pre.length + 1 = (pre ++ [c]).length by simp, show pre ++ c :: post = (pre ++ [c]) ++ post by simp, List.drop_left]
    rw [e6, Tr.run_bind]
    have hC : LQ.ContainsFunc post id = some (decide (ixL id post 0 ≥ 0), id) := by
      unfold LQ.ContainsFunc LQ.ContainsFunc.t
      rw [Tr.run_bind, IndexFunc_eq post id (by omega)]; rfl
    rw [hC]
    simp only [Option.bind_some, Tr.run_ret]
    have hct : ctL id l = 1 + ctL id post := by
      rw [e1, ctL_append, e3]
      have : (c.1 == id) = true := beq_iff_eq.2 e2
      simp only [ctL, this, cond_true]; omega
    by_cases hp : ctL id post = 0
    · rw [ixL_none id post 0 hp, decide_eq_true (p := ctL id l ≤ 1) (by omega)]; rfl
    · obtain ⟨pre', c', post', _, _, _, f4⟩ := ixL_some id post 0 (by omega)
      rw [f4, decide_eq_true (p := ((0 + pre'.length : Nat) : Int) ≥ 0) (by omega), decide_eq_false (p := ctL id l ≤ 1) (by omega)]; rfl
theorem find_loop (l : List ChunkD) (id : List UInt8) (hl : l.length ≤ 1099511627776) : ∀ (r : List ChunkD) (k : Nat) (a : Int) (n : Nat), l.drop k = r → k ≤ l.length → n ≤ k →
    loopO (fun (d : Int × Int × Int) ↦ (LQ.find.l0 l id d.fst d.snd.fst d.snd.snd).run) (a, (n : Int), (k : Int)) = some (laL id r k a, ((n + ctL id r : Nat) : Int))
  | [], k, a, n, h, hk, hn => by
    have := drop_nil h
    refine loopO_done ?_
    simp only [LQ.find.l0]
    rw [Tr.run_br, decide_eq_false (by simp only [Int.ofNat_eq_natCast]; omega), cond_false, Tr.run_ret]
    rfl
  | c :: r, k, a, n, h, hk, hn => by
    obtain ⟨h1, h2, h3⟩ := drop_cons h ([], [], (0 : Int), ())
    have hs : (LQ.find.l0 l id a (n : Int) (k : Int)).run = some (.inl (bif c.1 == id then (k : Int) else a, (((bif c.1 == id then n + 1 else n) : Nat) : Int), ((k + 1 : Nat) : Int))) := by
      unfold LQ.find.l0
      rw [Tr.run_br, decide_eq_true (by simp only [Int.ofNat_eq_natCast]; omega), cond_true, Tr.run_need _ (by simp only [Int.ofNat_eq_natCast]; omega), Int.toNat_natCast, h2]
      simp only [Tr.run_bind, Tr.run_br, Tr.run_ret, someBind, bifSome]
      rw [w64_id (x := (n : Int) + 1) (by omega), w64_id (by omega)]
      cases c.1 == id <;> rfl
    rw [loopO_next hs]
    have ih := find_loop l id hl r (k + 1) (bif c.1 == id then (k : Int) else a) (bif c.1 == id then n + 1 else n) h3 (by omega) (by cases c.1 == id <;> simp only [cond_true, cond_false] <;> omega)
    rw [ih]
    simp only [laL, ctL]
    cases c.1 == id <;> simp only [cond_true, cond_false, Nat.zero_add]
    rw [show n + 1 + ctL id r = n + (1 + ctL id r) by omega]
theorem find_eq (l : List ChunkD) (id : List UInt8) (hl : l.length ≤ 1099511627776) : LQ.find l id = some (laL id l 0 (-1), (ctL id l : Int)) := by
  unfold LQ.find LQ.find.t
  have h := find_loop l id hl l 0 (-1) 0 rfl (by omega) (by omega)
  rw [Nat.zero_add, show ((0 : Nat) : Int) = 0 from rfl] at h
  rw [Tr.run_bind, h]
  rfl
end Go.Proofs.Ytfblaicifdgfiaa.Dg
end

section
set_option linter.unusedVariables false
set_option linter.unusedSimpArgs false
set_option maxRecDepth 10000
namespace Go.LM
open Go
theorem bindT {A B : Type} {o : Option A} {f : A → Option B} {a : A} (h : o = some a) : o.bind f = f a := by rw [h]; rfl
def soV : List UInt8 := [115, 111, 119, 116]
def noV : List UInt8 := [78, 79, 78, 69]
def cmPad (s : List UInt8) : Nat := 23 + (s.getD 22 0).toNat + (23 + (s.getD 22 0).toNat) % 2
def cmR (s : List UInt8) : Int × Int := frV ((s.drop 8).take 10)
def cmC (s : List UInt8) : Nat := beV (s.take 2)
def cmN (s : List UInt8) : Nat := beV ((s.drop 2).take 4)
def cmW (s : List UInt8) : Nat := beV ((s.drop 6).take 2)
def cmSo (s : List UInt8) : Bool := (s.drop 18).take 4 == soV
def cmNo (s : List UInt8) : Bool := (s.drop 18).take 4 == noV
def cmBig (s : List UInt8) (c : Bool) : Bool := bif c then !cmSo s else true
def tlE (s : List UInt8) : Int :=
  bif (cmR s).2 != 0 then (cmR s).2 else bif cmC s == 0 then 2 else bif decide (8 < cmC s ∨ cmW s = 0 ∨ 32 < cmW s ∨ cmW s % 8 ≠ 0) then 3 else bif decide (1048576 < cmN s) then 5 else 0
def comE (s : List UInt8) (c : Bool) : Int :=
  bif (bif c then decide (s.length < 23) else s.length != 18) then 2 else bif c && s.length != cmPad s then 2 else bif c && (!cmSo s && !cmNo s) then 3 else tlE s
end Go.LM
namespace Go.Proofs.Ytfblaicifdgfiaa.Dg
open Go.LM
theorem lenNeq (s : List UInt8) (n : Nat) : (Int.ofNat s.length != (n : Int)) = (s.length != n) := by
  cases h : s.length != n with
  | true => have := bne_iff_ne.1 h; exact bne_iff_ne.2 (by simp only [Int.ofNat_eq_natCast]; omega)
  | false =>
    have : s.length = n := by simpa using h
    rw [this]; exact bne_self_eq_false _
theorem pad_eq (s : List UInt8) : w64 (w64 ((23 : Int) + w64 (Int.ofNat (s.getD 22 0).toNat)) + (w64 ((23 : Int) + w64 (Int.ofNat (s.getD 22 0).toNat))).tmod (2 : Int)) = (cmPad s : Int) := by
  have := (s.getD 22 0).toNat_lt
  simp only [Int.ofNat_eq_natCast]
  rw [w64_id (x := ((s.getD 22 0).toNat : Int)) (by omega), w64_id (x := (23 : Int) + _) (by omega)]
  have e : ((23 : Int) + ((s.getD 22 0).toNat : Int)).tmod 2 = (((23 + (s.getD 22 0).toNat) % 2 : Nat) : Int) := by
    rw [show (23 : Int) + ((s.getD 22 0).toNat : Int) = ((23 + (s.getD 22 0).toNat : Nat) : Int) by omega]; rfl
  rw [e, w64_id (by omega)]
  unfold cmPad; omega
theorem read_eq (s : List UInt8) (c : Bool) (hs : s.length ≤ 1099511627776) : ∃ x, LQ.read s c = some (x, comE s c) ∧ (comE s c = 0 → x = ((cmR s).1, (cmC s : Int), (cmW s : Int), (cmN s : Int), (cmBig s c, false, ()), ())) := by
  unfold LQ.read LQ.read.t
  rw [Tr.run_bind]
  generalize hX : (Tr.br c _ _).run = o
  have D : (∃ big, o = some (.inr (((0 : Int), (0 : Int), (0 : Int), (0 : Int), false, false), (0 : Int), (0 : Int), (0 : Int), (0 : Int), big, false)) ∧ 18 ≤ s.length ∧ comE s c = tlE s ∧ cmBig s c = big) ∨
      (∃ e : Int, e ≠ 0 ∧ o = some (.inl (e, (0 : Int), (0 : Int), (0 : Int), (0 : Int), true, false)) ∧ comE s c = e) := by
    have T : ∀ big, o = some (.inr (((0 : Int), (0 : Int), (0 : Int), (0 : Int), false, false), (0 : Int), (0 : Int), (0 : Int), (0 : Int), big, false)) → 18 ≤ s.length → comE s c = tlE s → cmBig s c = big → (∃ big, o = some (.inr (((0 : Int), (0 : Int), (0 : Int), (0 : Int), false, false), (0 : Int), (0 : Int), (0 : Int), (0 : Int), big, false)) ∧ 18 ≤ s.length ∧ comE s c = tlE s ∧ cmBig s c = big) ∨
      (∃ e : Int, e ≠ 0 ∧ o = some (.inl (e, (0 : Int), (0 : Int), (0 : Int), (0 : Int), true, false)) ∧ comE s c = e) := fun big h1 h2 h3 h4 => .inl ⟨big, h1, h2, h3, h4⟩
    have F : ∀ e : Int, e ≠ 0 → o = some (.inl (e, (0 : Int), (0 : Int), (0 : Int), (0 : Int), true, false)) → comE s c = e → (∃ big, o = some (.inr (((0 : Int), (0 : Int), (0 : Int), (0 : Int), false, false), (0 : Int), (0 : Int), (0 : Int), (0 : Int), big, false)) ∧ 18 ≤ s.length ∧ comE s c = tlE s ∧ cmBig s c = big) ∨
      (∃ e : Int, e ≠ 0 ∧ o = some (.inl (e, (0 : Int), (0 : Int), (0 : Int), (0 : Int), true, false)) ∧ comE s c = e) := fun e h1 h2 h3 => .inr ⟨e, h1, h2, h3⟩
    cases c with
    | false =>
      rw [Tr.run_br, cond_false, Tr.run_br, show (18 : Int) = ((18 : Nat) : Int) from rfl, lenNeq, Tr.run_ret, Tr.run_ret] at hX
      cases h : s.length != 18 with
      | true => exact F 2 (by decide) (by rw [← hX, h]; rfl) (by unfold comE; rw [h]; rfl)
      | false => exact T true (by rw [← hX, h]; rfl) (by have : s.length = 18 := by simpa using h
                                                         omega) (by unfold comE; rw [h]; rfl) rfl
    | true =>
      rw [Tr.run_br, cond_true, Tr.run_br] at hX
      by_cases h1 : s.length < 23
      · rw [decide_eq_true (by simp only [Int.ofNat_eq_natCast]; omega), cond_true] at hX
        exact F 2 (by decide) (by rw [← hX]; rfl) (by unfold comE; rw [decide_eq_true h1]; rfl)
      · rw [decide_eq_false (by simp only [Int.ofNat_eq_natCast]; omega), cond_false, Tr.run_need _ (by simp only [Int.ofNat_eq_natCast]; omega), Tr.run_br, pad_eq, lenNeq] at hX
        have g1 : comE s true = bif s.length != cmPad s then 2 else bif !cmSo s && !cmNo s then 3 else tlE s := by unfold comE; rw [decide_eq_false h1]; rfl
        cases h2 : s.length != cmPad s with
        | true =>
          rw [h2, cond_true] at hX g1
          exact F 2 (by decide) (by rw [← hX]; rfl) g1
        | false =>
          rw [h2, cond_false, Tr.run_need _ (by simp only [Int.ofNat_eq_natCast]; omega), Tr.run_bind, Tr.run_br, Tr.run_br] at hX
          rw [h2, cond_false] at g1
          change (Option.bind (bif cmSo s then _ else bif cmNo s then _ else _) _) = o at hX
          cases h3 : cmSo s with
          | true =>
            rw [h3, cond_true] at hX
            rw [h3] at g1
            exact T false (by rw [← hX]; rfl) (by omega) g1 (by unfold cmBig; rw [h3]; rfl)
          | false =>
            rw [h3, cond_false] at hX
            rw [h3] at g1
            cases h4 : cmNo s with
            | true =>
              rw [h4, cond_true] at hX
              rw [h4] at g1
              exact T true (by rw [← hX]; rfl) (by omega) g1 (by unfold cmBig; rw [h3]; rfl)
            | false =>
              rw [h4, cond_false] at hX
              rw [h4] at g1
              exact F 3 (by decide) (by rw [← hX]; rfl) g1
  rcases D with ⟨big, ho, h18, hE, hB⟩ | ⟨e, he, ho, hE⟩
  · rw [bindT ho, hE, hB]
    have f1 : LQ.FromRate ((s.drop 8).take 10) = some (cmR s) := FromRate_eq _
    have f2 : LQ.bytes_FromBe ((s.drop 0).take 2) = some (cmC s : Int) := bFromBe_eq (s.take 2) (by rw [List.length_take]; omega)
    have f3 : LQ.bytes_FromBe ((s.drop 2).take 4) = some (cmN s : Int) := bFromBe_eq _ (by rw [List.length_take]; omega)
    have f4 : LQ.bytes_FromBe ((s.drop 6).take 2) = some (cmW s : Int) := bFromBe_eq _ (by rw [List.length_take]; omega)
    rw [Tr.run_csr, Tr.run_need _ (by simp only [Int.ofNat_eq_natCast]; omega)]
    simp only [Tr.run_bind, f1, someBind, Tr.run_br, Tr.run_ret]
    unfold tlE
    cases h1 : (cmR s).2 != 0 with
    | true =>
      simp only [cond_true]
      exact ⟨_, rfl, fun e => by rw [e] at h1; exact absurd h1 (by decide)⟩
    | false =>
      simp only [cond_false]
      rw [Tr.run_need _ (by simp only [Int.ofNat_eq_natCast]; omega), Tr.run_bind, f2, someBind, Tr.run_need _ (by simp only [Int.ofNat_eq_natCast]; omega), Tr.run_bind, f3, someBind, Tr.run_need _ (by simp only [Int.ofNat_eq_natCast]; omega), Tr.run_bind, f4, someBind]
      have d1 : ((cmC s : Int) == 0) = (cmC s == 0) := by
        cases h : cmC s == 0 with
        | true => rw [beq_iff_eq.1 h]; rfl
        | false => rw [beq_eq_false_iff_ne] at h ⊢; omega
      have d2 : ((cmW s : Int) == 0) = decide (cmW s = 0) := by
        by_cases h : cmW s = 0
        · rw [h]; rfl
        · rw [decide_eq_false h, beq_eq_false_iff_ne]; omega
      have d3 : ((cmW s : Int).tmod 8 != 0) = decide (cmW s % 8 ≠ 0) := by
        rw [show (cmW s : Int).tmod 8 = ((cmW s % 8 : Nat) : Int) from rfl]
        by_cases h : cmW s % 8 = 0
        · rw [h]; rfl
        · rw [decide_eq_true h, bne_iff_ne]; omega
      have d4 : (decide ((cmC s : Int) > 8) || (decide (cmW s = 0) || (decide ((cmW s : Int) > 32) || decide (cmW s % 8 ≠ 0)))) = decide (8 < cmC s ∨ cmW s = 0 ∨ 32 < cmW s ∨ cmW s % 8 ≠ 0) := by
        rw [Bool.eq_iff_iff]; simp only [Bool.or_eq_true, decide_eq_true_eq]; omega
      have d5 : decide ((cmN s : Int) > 1048576) = decide (1048576 < cmN s) := by rw [Bool.eq_iff_iff]; simp only [decide_eq_true_eq]; omega
      simp only [Tr.run_bind, Tr.run_br, Tr.run_ret, someBind, bifSome, bifPair, bifSame, bifOr2, d1, d2, d3, d4, d5]
      cases cmC s == 0 with
      | true => exact ⟨_, rfl, fun e => absurd (show (2 : Int) = 0 from e) (by decide)⟩
      | false =>
        cases decide (8 < cmC s ∨ cmW s = 0 ∨ 32 < cmW s ∨ cmW s % 8 ≠ 0) with
        | true => exact ⟨_, rfl, fun e => absurd (show (3 : Int) = 0 from e) (by decide)⟩
        | false =>
          cases decide (1048576 < cmN s) with
          | true => exact ⟨_, rfl, fun e => absurd (show (5 : Int) = 0 from e) (by decide)⟩
          | false => exact ⟨_, rfl, fun e => rfl⟩
  · rw [bindT ho, hE]
    exact ⟨_, rfl, fun h => absurd h he⟩
theorem comm_eq (s : List UInt8) (c : Bool) (hs : s.length ≤ 1099511627776) : ∃ x, LQ.comm s c = some (x, comE s c) ∧ (comE s c = 0 → x = (((cmR s).1, (cmC s : Int), (cmW s : Int), [], ()), (cmN s : Int), !cmBig s c, ())) := by
  unfold LQ.comm LQ.comm.t
  rw [Tr.run_bind]
  have g0 : (Tr.br (!c) (Tr.br (Int.ofNat s.length != (18 : Int)) (Tr.ret (true, (0 : Int), (0 : Int), (0 : Int), (0 : Int), false)) (Tr.br c (Tr.ret (decide (Int.ofNat s.length < (23 : Int)), (0 : Int), (0 : Int), (0 : Int), (0 : Int), false)) (Tr.ret (false, (0 : Int), (0 : Int), (0 : Int), (0 : Int), false)))) (Tr.br c (Tr.ret (decide (Int.ofNat s.length < (23 : Int)), (0 : Int), (0 : Int), (0 : Int), (0 : Int), false)) (Tr.ret (false, (0 : Int), (0 : Int), (0 : Int), (0 : Int), false)))).run = some ((bif c then decide (s.length < 23) else s.length != 18), (0 : Int), (0 : Int), (0 : Int), (0 : Int), false) := by
    rw [show (18 : Int) = ((18 : Nat) : Int) from rfl, lenNeq, show decide (Int.ofNat s.length < (23 : Int)) = decide (s.length < 23) by rw [Bool.eq_iff_iff]; simp only [decide_eq_true_eq, Int.ofNat_eq_natCast]; omega]
    cases c with
    | true => rfl
    | false => cases h : s.length != 18 <;> rfl
  rw [g0, someBind, Tr.run_br]
  simp only
  cases h0 : (bif c then decide (s.length < 23) else s.length != 18) with
  | true =>
    have hE : comE s c = 2 := by unfold comE; rw [h0]; rfl
    rw [hE]
    exact ⟨_, rfl, fun e => absurd e (by decide)⟩
  | false =>
    have hE : comE s c = bif c && s.length != cmPad s then 2 else bif c && (!cmSo s && !cmNo s) then 3 else tlE s := by unfold comE; rw [h0]; rfl
    have h18 : 18 ≤ s.length := by
      cases c with
      | true => rw [cond_true] at h0; have := of_decide_eq_false h0; omega
      | false => rw [cond_false] at h0; have : s.length = 18 := by simpa using h0
                 omega
    rw [cond_false, Tr.run_bind]
    generalize hX : (Tr.br c _ _).run = o
    have D : (o = some (.inr ((0 : Int), (0 : Int), (0 : Int), (0 : Int), false)) ∧ (c = true → 23 ≤ s.length) ∧ comE s c = tlE s) ∨ (∃ e : Int, e ≠ 0 ∧ o = some (.inl (e, (0 : Int), (0 : Int), (0 : Int), (0 : Int), false)) ∧ comE s c = e) := by
      cases c with
      | false => exact .inl ⟨by rw [← hX]; rfl, (fun e => by cases e), hE⟩
      | true =>
        have h23 : 23 ≤ s.length := by rw [cond_true] at h0; have := of_decide_eq_false h0; omega
        rw [Tr.run_br, cond_true, Tr.run_need _ (by simp only [Int.ofNat_eq_natCast]; omega), Tr.run_br, pad_eq, lenNeq] at hX
        rw [Bool.true_and, Bool.true_and] at hE
        cases h2 : s.length != cmPad s with
        | true => rw [h2] at hX hE; exact .inr ⟨2, by decide, by rw [← hX]; rfl, hE⟩
        | false =>
          rw [h2, cond_false, Tr.run_bind, Tr.run_need _ (by simp only [Int.ofNat_eq_natCast]; omega), Tr.run_br] at hX
          rw [h2, cond_false] at hE
          change (Option.bind (bif !cmNo s then _ else _) _) = o at hX
          cases h4 : cmNo s with
          | true =>
            rw [h4, Bool.not_true, cond_false] at hX
            rw [h4, Bool.not_true, Bool.and_false] at hE
            exact .inl ⟨by rw [← hX]; rfl, fun _ => h23, hE⟩
          | false =>
            rw [h4, Bool.not_false, cond_true, Tr.run_need _ (by simp only [Int.ofNat_eq_natCast]; omega)] at hX
            change (Option.bind (some (!cmSo s, _)) _) = o at hX
            rw [h4] at hE
            cases h3 : cmSo s with
            | true => rw [h3] at hX hE; exact .inl ⟨by rw [← hX]; rfl, fun _ => h23, hE⟩
            | false => rw [h3] at hX hE; exact .inr ⟨3, by decide, by rw [← hX]; rfl, hE⟩
    rcases D with ⟨ho, h23, hE⟩ | ⟨e, he, ho, hE⟩
    · rw [bindT ho, hE]
      clear hX ho
      have f1 : LQ.r2_FromRate ((s.drop 8).take 10) = some (cmR s) := r2_FromRate_eq _
      have f2 : LQ.r2_FromBe ((s.drop 0).take 2) = some (cmC s : Int) := FromBe_eq (s.take 2) (by rw [List.length_take]; omega)
      have f3 : LQ.r2_FromBe ((s.drop 2).take 4) = some (cmN s : Int) := FromBe_eq _ (by rw [List.length_take]; omega)
      have f4 : LQ.r2_FromBe ((s.drop 6).take 2) = some (cmW s : Int) := FromBe_eq _ (by rw [List.length_take]; omega)
      rw [Tr.run_csr, Tr.run_bind]
      generalize hY : (Tr.need _ _).run = o2
      have hY2 : o2 = some (((0 : Int), (0 : Int), (0 : Int), (0 : Int), false), (0 : Int), (0 : Int), (0 : Int), (cmN s : Int), !cmBig s c) := by
        rw [← hY, Tr.run_need _ (by simp only [Int.ofNat_eq_natCast]; omega), Tr.run_bind, f3, someBind, Tr.run_br]
        cases c with
        | false => rfl
        | true =>
          have := h23 rfl
          rw [cond_true, Tr.run_need _ (by simp only [Int.ofNat_eq_natCast]; omega)]
          unfold cmBig
          rw [cond_true, Bool.not_not]
          rfl
      rw [bindT hY2, Tr.run_need _ (by simp only [Int.ofNat_eq_natCast]; omega)]
      clear hY hY2
      simp only [Tr.run_bind, f1, someBind, Tr.run_br, Tr.run_ret]
      unfold tlE
      cases h1 : (cmR s).2 != 0 with
      | true =>
        simp only [cond_true]
        exact ⟨_, rfl, fun e => by rw [e] at h1; exact absurd h1 (by decide)⟩
      | false =>
        simp only [cond_false]
        rw [Tr.run_need _ (by simp only [Int.ofNat_eq_natCast]; omega), Tr.run_bind, f2, someBind, Tr.run_need _ (by simp only [Int.ofNat_eq_natCast]; omega), Tr.run_bind, f4, someBind]
        have d1 : ((cmC s : Int) == 0) = (cmC s == 0) := by
          cases h : cmC s == 0 with
          | true => rw [beq_iff_eq.1 h]; rfl
          | false => rw [beq_eq_false_iff_ne] at h ⊢; omega
        have d3 : ((cmW s : Int).tmod 8 != 0) = decide (cmW s % 8 ≠ 0) := by
          rw [show (cmW s : Int).tmod 8 = ((cmW s % 8 : Nat) : Int) from rfl]
          by_cases h : cmW s % 8 = 0
          · rw [h]; rfl
          · rw [decide_eq_true h, bne_iff_ne]; omega
        have d4 : (decide ((cmC s : Int) > 8) || (decide (cmW s % 8 ≠ 0) || (decide ((cmW s : Int) < 8) || decide ((cmW s : Int) > 32)))) = decide (8 < cmC s ∨ cmW s = 0 ∨ 32 < cmW s ∨ cmW s % 8 ≠ 0) := by
          rw [Bool.eq_iff_iff]; simp only [Bool.or_eq_true, decide_eq_true_eq]; omega
        have d5 : decide ((cmN s : Int) > 1048576) = decide (1048576 < cmN s) := by rw [Bool.eq_iff_iff]; simp only [decide_eq_true_eq]; omega
        simp only [Tr.run_bind, Tr.run_br, Tr.run_ret, someBind, bifSome, bifPair, bifSame, bifOr2, d1, d3, d4, d5]
        cases cmC s == 0 with
        | true => exact ⟨_, rfl, fun e => absurd (show (2 : Int) = 0 from e) (by decide)⟩
        | false =>
          cases decide (8 < cmC s ∨ cmW s = 0 ∨ 32 < cmW s ∨ cmW s % 8 ≠ 0) with
          | true => exact ⟨_, rfl, fun e => absurd (show (3 : Int) = 0 from e) (by decide)⟩
          | false =>
            cases decide (1048576 < cmN s) with
            | true => exact ⟨_, rfl, fun e => absurd (show (5 : Int) = 0 from e) (by decide)⟩
            | false => exact ⟨_, rfl, fun e => rfl⟩
    · rw [bindT ho, hE]
      exact ⟨_, rfl, fun h => absurd h he⟩
end Go.Proofs.Ytfblaicifdgfiaa.Dg
end

