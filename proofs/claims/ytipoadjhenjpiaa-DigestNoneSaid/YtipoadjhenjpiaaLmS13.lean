/- LM: append, copy, conversions, lengths. -/
import Derived.Test.YtipoadjhenjpiaaLmS12
set_option linter.unusedVariables false
set_option linter.unusedSimpArgs false
namespace Go.LM

section
variable {P : Program} {F : Nat → Prop} {w : World} {β : Nat → Option Conc}

/-- What an operation leaves: perhaps a block more. -/
def Left (X : Cst) (F : Nat → Prop) (w : World) (β : Nat → Option Conc) (H' : Heap) (id0 : Nat) (a : AV) (r : Value) (w' : World) : Prop :=
  ∃ F' β', Good X F' w' β' H' ∧ Ext F w β F' w' β' ∧ RelV F' w' β' a r ∧ ∀ j, β' j ≠ none → β j ≠ none ∨ j = id0

theorem Made.left {X H' id0 a r w'} (h : Made X F w β H' id0 a r w') : Left X F w β H' id0 a r w' := by
  obtain ⟨F', c, h1, h2, h3⟩ := h
  refine ⟨F', _, h1, h2, h3, fun j hj => ?_⟩
  by_cases e : j = id0
  · exact .inr e
  · left; rw [upd_ne e] at hj; exact hj

theorem rep_ar_append {n m : Nat} {t : Ty} {xs ys : List t.D} {vs us : List Value} (h1 : rep F w (.ar n t) xs vs) (h2 : rep F w (.ar m t) ys us) : rep F w (.ar (n + m) t) (xs ++ ys) (vs ++ us) := by
  rw [rep_ar_iff] at h1 h2 ⊢
  obtain ⟨a1, a2, a3⟩ := h1
  obtain ⟨b1, b2, b3⟩ := h2
  refine ⟨by simp [a1, b1], by simp [a2, b2, Nat.add_mul], fun i hi => ?_⟩
  by_cases hlt : i < xs.length
  · have hm : (i + 1) * t.sz ≤ n * t.sz := Nat.mul_le_mul_right _ (by omega)
    rw [Nat.add_mul] at hm
    rw [List.getElem_append_left hlt, List.drop_append_of_le_length (by omega), List.take_append_of_le_length (by simp; omega)]
    exact a3 i hlt
  · simp only [List.length_append] at hi
    rw [List.getElem_append_right (by omega)]
    have hm : n * t.sz ≤ i * t.sz := Nat.mul_le_mul_right _ (by omega)
    rw [List.drop_append, List.drop_of_length_le (by omega), List.nil_append]
    have := b3 (i - xs.length) (by omega)
    rw [show i * t.sz - vs.length = (i - xs.length) * t.sz by rw [a2, a1, Nat.sub_mul]]
    exact this

theorem zeroCells_size (z : Array Value) (n : Nat) : (Builtin.zeroCells z n).size = n * z.size := by simp [Builtin.zeroCells]

theorem le_grownCap (need old : Nat) (e : TypeId) : need ≤ grownCap w need old e := by
  unfold grownCap Question.cut
  simp only
  omega

/-- Append where a new array is made. -/
theorem grow_run {T U e : TypeId} {t : Ty} (hT : P.underlying T = some (.slice e)) (hU : ∃ d, P.underlying U = some d ∧ ∀ k, d ≠ .int k) (hc : tyC P e = some t) {z : Value} (hz : zeroOf P e = some z) (ty : TypeId)
    {A : Option Addr} {len cap n : Nat} {v : Value} {olds news : List Value} (hlen : (Builtin.lenOf v).run P w = .ok n w) (hneed : cap < len + n) (hb : (len + n) * P.bytesOf e ≤ 140737488355328) (hb0 : P.bytesOf e ≠ 0)
    (hold : ∀ w', w'.heap = w.heap → (Builtin.firstCells t.sz len (.slice A len cap)).run P w' = .ok olds.toArray w') (hnew : ∀ w', w'.heap = w.heap → (Builtin.firstCells t.sz n v).run P w' = .ok news.toArray w') :
    (Builtin.append_ #[T, U] ty #[.slice A len cap, v]).run P w = .ok (.slice (some ⟨w.heap.size, 0, none⟩) (len + n) (grownCap w (len + n) cap e))
      { w with drawn := w.drawn + 1, heap := w.heap.push (.cells (olds.toArray ++ news.toArray ++ Builtin.zeroCells z.cells (grownCap w (len + n) cap e - (len + n))) e) } := by
  obtain ⟨_, ⟨inf, hi⟩, hsz, _, _⟩ := tyC_some hc
  obtain ⟨hzr, _⟩ := zero_run (w := w) hz
  obtain ⟨d, hd1, hd2⟩ := hU
  have hbytes : P.bytesOf e = inf.bytes := by simp [Program.bytesOf, hi]
  rw [hbytes] at hb hb0
  have hti : ∀ w', (typeInfo e).run P w' = .ok inf w' := fun w' => by simp [typeInfo, hi]
  have hzr' : ∀ w', (zeroValue e).run P w' = .ok z w' := fun w' => (zero_run (w := w') hz).1
  have hsz' : ∀ w', (sizeOf e).run P w' = .ok t.sz w' := fun w' => by rw [sizeOf_run hi, hsz]
  have hfit := growslice_fits hneed hb
  have hneg : ¬ (len + n ≤ cap) := by omega
  have hmatch : (match d with | .int _ => true | _ => false) = false := by
    cases d <;> first | rfl | exact absurd rfl (hd2 _)
  have hroom : ∀ (b : Nat) w', (askRoom b).run P w' = .ok () w' := fun b w' => by
    unfold askRoom; split <;> simp [mark, pure, Sem.run]
  unfold Builtin.append_
  simp only [Sem.run_bind, und hT, Result.andThen_ok, hsz', List.getElem?_toArray, List.getElem?_cons_zero, List.getElem?_cons_succ, und hd1, pure, Sem.run]
  have hzeros : (d matches .int _) = false := by cases d <;> first | rfl | exact absurd rfl (hd2 _)
  simp only [hzeros, Bool.false_eq_true, if_false, hlen, Result.andThen_ok, Sem.run_bind, false_or, Bool.not_false, if_true]
  rw [if_neg hneg]
  simp only [Sem.run_bind, hti, Result.andThen_ok]
  have h63 : ¬ (((len + n : Nat) : Int) > IntKind.i64.max ∧ inf.bytes = 0) := fun h => hb0 h.2
  rw [if_neg h63]
  have h48 : ¬ (Builtin.nextslicecap (len + n) cap * inf.bytes > 2 ^ 48) := by
    have : (2 : Nat) ^ 48 = 281474976710656 := rfl
    omega
  simp only [pure, Sem.run, Result.andThen_ok, Sem.run_bind, hti]
  rw [if_neg h48]
  simp only [pure, Sem.run, Result.andThen_ok, Sem.run_bind, choose, Question.forced, Bool.false_eq_true, if_false, hti, hroom]
  rw [hold { w with drawn := w.drawn + 1 } rfl]
  simp only [Result.andThen_ok]
  rw [hnew { w with drawn := w.drawn + 1 } rfl]
  simp only [Result.andThen_ok, hzr', newRow_run]
  rfl

/-- Append where there is room. -/
theorem room_run {T U e : TypeId} {t : Ty} (hT : P.underlying T = some (.slice e)) (hU : ∃ d, P.underlying U = some d ∧ ∀ k, d ≠ .int k) (hc : tyC P e = some t) (ty : TypeId)
    {b : Nat} {len cap n : Nat} {v : Value} {news : List Value} (hlen : (Builtin.lenOf v).run P w = .ok n w) (hneed : len + n ≤ cap) (hnew : (Builtin.firstCells t.sz n v).run P w = .ok news.toArray w)
    {w' : World} (hst : (storeCells ⟨b, len * t.sz, none⟩ news).run P w = .ok () w') :
    (Builtin.append_ #[T, U] ty #[.slice (some ⟨b, 0, none⟩) len cap, v]).run P w = .ok (.slice (some ⟨b, 0, none⟩) (len + n) cap) w' := by
  obtain ⟨_, ⟨inf, hi⟩, hsz, _, _⟩ := tyC_some hc
  obtain ⟨d, hd1, hd2⟩ := hU
  have hsz' : ∀ w', (sizeOf e).run P w' = .ok t.sz w' := fun w' => by rw [sizeOf_run hi, hsz]
  have hzeros : (d matches .int _) = false := by cases d <;> first | rfl | exact absurd rfl (hd2 _)
  unfold Builtin.append_
  simp only [Sem.run_bind, und hT, Result.andThen_ok, hsz', List.getElem?_toArray, List.getElem?_cons_zero, List.getElem?_cons_succ, und hd1, pure, Sem.run]
  simp only [hzeros, Bool.false_eq_true, if_false, hlen, Result.andThen_ok, Sem.run_bind, Bool.not_false, if_true]
  rw [if_pos hneed]
  simp only [Sem.run_bind, hnew, Result.andThen_ok, addr_add, Nat.zero_add, hst, pure, Sem.run]

theorem nil_room_run {T U e : TypeId} {t : Ty} (hT : P.underlying T = some (.slice e)) (hU : ∃ d, P.underlying U = some d ∧ ∀ k, d ≠ .int k) (hc : tyC P e = some t) (ty : TypeId)
    {v : Value} {news : List Value} (hlen : (Builtin.lenOf v).run P w = .ok 0 w) (hnew : (Builtin.firstCells t.sz 0 v).run P w = .ok news.toArray w) :
    (Builtin.append_ #[T, U] ty #[.slice none 0 0, v]).run P w = .ok (.slice none 0 0) w := by
  obtain ⟨_, ⟨inf, hi⟩, hsz, _, _⟩ := tyC_some hc
  obtain ⟨d, hd1, hd2⟩ := hU
  have hsz' : ∀ w', (sizeOf e).run P w' = .ok t.sz w' := fun w' => by rw [sizeOf_run hi, hsz]
  have hzeros : (d matches .int _) = false := by cases d <;> first | rfl | exact absurd rfl (hd2 _)
  unfold Builtin.append_
  simp only [Sem.run_bind, und hT, Result.andThen_ok, hsz', List.getElem?_toArray, List.getElem?_cons_zero, List.getElem?_cons_succ, und hd1, pure, Sem.run]
  simp only [hzeros, Bool.false_eq_true, if_false, hlen, Result.andThen_ok, Sem.run_bind, Bool.not_false, if_true]
  simp only [Nat.add_zero, Nat.le_refl, if_true, Sem.run_bind, hnew, Result.andThen_ok, pure, Sem.run]

theorem none_first {size n len cap : Nat} : (Builtin.firstCells size n (.slice none len cap)).run P w = .ok ([] : List Value).toArray w := by simp [Builtin.firstCells, pure, Sem.run]

theorem Ext.trans_same {F w β F' w' β'} (h : Ext F w β F' w' β') : Ext F w β F' w' β' := h

theorem sim_append {X H} (g : Good X F w β H) {id0 : Nat} (hid : β id0 = none) {T U ty : TypeId} {a b x : AV} {H' : Heap} {hd : Bool} (h : exAppend P T U H id0 a b = some (x, H', hd)) {va vb : Value} (ha : RelV F w β a va) (hb : RelV F w β b vb) :
    ∃ r w', (Builtin.append_ #[T, U] ty #[va, vb]).run P w = .ok r w' ∧ Left X F w β H' id0 x r w' := by
  unfold exAppend at h
  cases hT : elemTy P T with
  | none => rw [hT] at h; cases h
  | some et =>
  obtain ⟨e, t⟩ := et
  rw [hT] at h
  simp only [Option.bind_some] at h
  obtain ⟨hT1, hT2⟩ := elemTy_some hT
  cases hz : zeroD P e t with
  | none => rw [hz] at h; cases h
  | some zd =>
  rw [hz] at h
  simp only [Option.bind_some] at h
  obtain ⟨z, hz1, hz2⟩ := zeroD_rep (F := F) (w := w) hz
  have hzs : z.cells.size = t.sz := by have := rep_len _ _ _ hz2; simpa using this
  split at h
  · cases h
  rename_i hb0
  cases hs : srcOf P U H t b with
  | none => rw [hs] at h; cases h
  | some ys =>
  rw [hs] at h
  simp only [Option.bind_some] at h
  obtain ⟨hU, hlen, vs, hvs, hfc⟩ := src_cells g hs hb
  have hvl : vs.length = ys.length * t.sz := (rep_ar_iff.1 hvs).2.1
  have hfc' : ∀ w', w'.heap = w.heap → (Builtin.firstCells t.sz ys.length vb).run P w' = .ok vs.toArray w' := fun w' hw' => by
    rw [hfc ys.length (Nat.le_refl _) w' hw', List.take_of_length_le (by omega)]
  -- a new block
  have fresh : ∀ {H0 : Heap}, Good X F w β H0 → ∀ {zs : List t.D} {us : List Value} {A : Option Addr} {cap : Nat}, rep F w (.ar zs.length t) zs us → cap < zs.length + ys.length → (zs.length + ys.length) * P.bytesOf e ≤ maxBytes →
      (∀ w', w'.heap = w.heap → (Builtin.firstCells t.sz zs.length (.slice A zs.length cap)).run P w' = .ok us.toArray w') →
      ∃ r w', (Builtin.append_ #[T, U] ty #[.slice A zs.length cap, vb]).run P w = .ok r w' ∧ Left X F w β (H0.set id0 (.row t (zs ++ ys) false)) id0 (.full id0) r w' := by
    intro H0 g0 zs us A cap hzs' hneed hbytes hold
    have hrun := grow_run (P := P) (w := w) hT1 hU hT2 hz1 ty hlen hneed hbytes hb0 hold hfc'
    have hgc := le_grownCap (w := w) (zs.length + ys.length) cap e
    have hul : us.length = zs.length * t.sz := (rep_ar_iff.1 hzs').2.1
    have hrep := rep_ar_append hzs' hvs
    obtain ⟨c, g', ex, rv⟩ := new_row g0 hid (t := t) (xs := zs ++ ys) (vs := us ++ vs) (rest := (Builtin.zeroCells z.cells (grownCap w (zs.length + ys.length) cap e - (zs.length + ys.length))).toList) (cap := grownCap w (zs.length + ys.length) cap e)
      (by rw [List.length_append]; exact hrep) (by rw [List.length_append]; exact hgc) (by
        simp only [List.length_append, Array.length_toList, zeroCells_size, hzs, hul, hvl]
        rw [← Nat.add_mul, ← Nat.add_mul]
        congr 1; omega) e (0, 0) (fun o _ => by simp)
    have hcells : us.toArray ++ vs.toArray ++ Builtin.zeroCells z.cells (grownCap w (zs.length + ys.length) cap e - (zs.length + ys.length)) =
        (us ++ vs ++ (Builtin.zeroCells z.cells (grownCap w (zs.length + ys.length) cap e - (zs.length + ys.length))).toList).toArray := by
      apply Array.ext'; simp
    rw [hcells] at hrun
    refine ⟨_, _, hrun, F, upd β id0 c, g'.same rfl ⟨rfl, rfl⟩, ex.trans (Ext.same rfl), ?_, fun j hj => ?_⟩
    · have hx : RelV F { w with drawn := w.drawn + 1, heap := w.heap.push (.cells (us ++ vs ++ (Builtin.zeroCells z.cells (grownCap w (zs.length + ys.length) cap e - (zs.length + ys.length))).toList).toArray e) } (upd β id0 c)
          (.full id0) (.slice (some ⟨w.heap.size, 0, none⟩) (zs ++ ys).length (grownCap w (zs.length + ys.length) cap e)) := by
        refine RelV.same ?_ rv
        rfl
      rw [List.length_append] at hx
      exact hx
    · by_cases e' : j = id0
      · exact .inr e'
      · left; rw [upd_ne e'] at hj; exact hj
  split at h
  · -- nil
    split at h
    · rename_i hbytes
      cases h
      rw [ha.nilS_inv]
      by_cases hn : ys.length = 0
      · have hnil : ys = [] := List.eq_nil_of_length_eq_zero hn
        subst hnil
        obtain ⟨g', ex, rv⟩ := g.nilRow hid t
        refine ⟨_, w, nil_room_run hT1 hU hT2 ty hlen (hfc' w rfl), F, _, g', ex, rv, fun j hj => ?_⟩
        by_cases e' : j = id0
        · exact .inr e'
        · left; rw [upd_ne e'] at hj; exact hj
      · have := fresh g (zs := []) (us := []) (A := none) (cap := 0) (by rw [rep_ar_iff]; exact ⟨rfl, by simp, fun i hi => by simp at hi⟩) (by simp; omega) (by simpa using hbytes) (fun w' _ => none_first)
        simpa using this
    · cases h
  · -- a row of one's own
    rename_i id
    split at h
    · rename_i u xs hH
      cases hq : castL (u := t) xs with
      | none => rw [hq] at h; cases h
      | some zs =>
        rw [hq] at h
        simp only [Option.bind_some] at h
        obtain ⟨ee, he⟩ := castL_some hq
        subst ee
        have he' : zs = xs := he
        subst he'
        split at h
        · rename_i hbytes
          cases h
          obtain ⟨c, t', len, rfl, hc, hsh, hle⟩ := ha.full_inv
          obtain ⟨blk, hb1, hb2⟩ := g.hr id c hc
          rw [hH] at hb1; cases hb1
          obtain ⟨r1, r2, r3, r4⟩ := hb2
          have hl : len = zs.length := by rw [hsh] at r1; injection r1
          subst hl
          have hne : id ≠ id0 := fun e => by rw [e, hid] at hc; cases hc
          by_cases hroom : zs.length + ys.length ≤ c.cap
          · cases hcb : c.b with
            | none =>
              obtain ⟨h1, h2⟩ := r3 hcb
              subst h1
              rw [h2] at hroom ⊢
              have hn : ys = [] := List.eq_nil_of_length_eq_zero (by simpa using hroom)
              subst hn
              obtain ⟨g', ex, rv⟩ := (g.kill id).nilRow hid u
              refine ⟨_, w, nil_room_run hT1 hU hT2 ty hlen (hfc' w rfl), F, _, g', ex, rv, fun j hj => ?_⟩
              by_cases e' : j = id0
              · exact .inr e'
              · left; rw [upd_ne e'] at hj; exact hj
            | some bb =>
              obtain ⟨⟨l, hl, hsz2, hrr⟩, r5, r6⟩ := r4 bb hcb
              have hm : (zs.length + ys.length) * u.sz ≤ c.cap * u.sz := Nat.mul_le_mul_right _ hroom
              rw [Nat.add_mul] at hm
              obtain ⟨w', s1, s2, s3, s4, s5, s6⟩ := store_run (P := P) vs w bb (zs.length * u.sz) 0 l hl (by omega) (fun k hk => by
                rcases Nat.lt_or_ge (zs.length * u.sz + 0 + k) (c.cap * u.sz) with hh | hh
                · rw [r6 rfl _ hh] at hk; cases hk
                · omega) (rep_one _ _ _ hvs)
              rw [Nat.add_zero] at s4
              have hsp : (splice l (zs.length * u.sz) vs).length = l.length := splice_len _ _ _ (by omega)
              obtain ⟨g', ex⟩ := g.moveRow (id0 := id0) hid (c' := ⟨c.b, c.cap, .row u (zs ++ ys).length⟩) hc (by rw [hH]; rfl) rfl (w' := w') (fun b' hb' => s3 b' (fun e => hb' (by rw [hcb, e]))) s2 s6 (t := u) (ys := zs ++ ys) (fun ex => by
                refine ⟨rfl, by rw [List.length_append]; exact hroom, (fun e => by rw [hcb] at e; cases e), fun b' hb' => ?_⟩
                rw [show (Conc.b ⟨c.b, c.cap, .row u (zs ++ ys).length⟩) = c.b from rfl, hcb] at hb'; cases hb'
                refine ⟨⟨_, s4, by rw [hsp]; exact hsz2, fun i hi => ?_⟩, (fun e => by cases e), fun _ o ho => (s5 bb o).trans (r6 rfl o ho)⟩
                simp only [List.length_append] at hi
                have hmi : (i + 1) * u.sz ≤ (zs.length + ys.length) * u.sz := Nat.mul_le_mul_right _ (by omega)
                rw [Nat.add_mul, Nat.add_mul] at hmi
                by_cases hlt : i < zs.length
                · have hmz : (i + 1) * u.sz ≤ zs.length * u.sz := Nat.mul_le_mul_right _ hlt
                  rw [Nat.add_mul] at hmz
                  rw [List.getElem_append_left hlt, splice_apart _ _ _ (by omega) _ _ (.inl (by omega))]
                  exact rep_mono ex.f _ _ _ (hrr i hlt)
                · rw [List.getElem_append_right (by omega)]
                  have hmz : zs.length * u.sz ≤ i * u.sz := Nat.mul_le_mul_right _ (by omega)
                  obtain ⟨_, _, hv3⟩ := rep_ar_iff.1 hvs
                  have := hv3 (i - zs.length) (by omega)
                  have hself := splice_self l (zs.length * u.sz) vs (by omega)
                  have e1 : ((splice l (zs.length * u.sz) vs).drop (i * u.sz)).take u.sz = (vs.drop ((i - zs.length) * u.sz)).take u.sz := by
                    have hmi2 : (i - zs.length + 1) * u.sz ≤ ys.length * u.sz := Nat.mul_le_mul_right _ (by omega)
                    rw [Nat.add_mul] at hmi2
                    have e2 := seg_seg (splice l (zs.length * u.sz) vs) (a := zs.length * u.sz) (n := vs.length) (b := (i - zs.length) * u.sz) (m := u.sz) (by rw [hvl]; omega)
                    rw [hself] at e2
                    rw [e2]
                    congr 2
                    rw [Nat.sub_mul]; omega
                  rw [e1]
                  exact rep_mono ex.f _ _ _ this)
              refine ⟨_, w', by simpa only [Option.map_some] using room_run hT1 hU hT2 ty hlen hroom (hfc' w rfl) s1, F, _, g', ex, ?_, fun j hj => ?_⟩
              · have := RelV.one (F := F) (w := w') (β := upd β id0 ⟨c.b, c.cap, .row u (zs ++ ys).length⟩) (.full id0) _ rfl (.full id0 _ u (zs ++ ys).length upd_self rfl (by rw [List.length_append]; exact hroom))
                simpa [hcb] using this
              · by_cases e' : j = id0
                · exact .inr e'
                · left; rw [upd_ne e'] at hj; exact hj
          · -- it has to grow
            have hrow : ∃ us, rep F w (.ar zs.length u) zs us ∧ ∀ w', w'.heap = w.heap → (Builtin.firstCells u.sz zs.length (.slice (c.b.map fun b => ⟨b, 0, none⟩) zs.length c.cap)).run P w' = .ok us.toArray w' := by
              have hA : arrAt H id 0 = some ⟨u, zs⟩ := by unfold arrAt; rw [hH]; rfl
              obtain ⟨_, a2, a3⟩ := arrAt_rel g hA hc
              cases hcb : c.b with
              | none =>
                have := a3 hcb
                subst this
                exact ⟨[], by rw [rep_ar_iff]; exact ⟨rfl, by simp, fun i hi => by simp at hi⟩, fun w' _ => none_first⟩
              | some bb =>
                obtain ⟨l, hl, hle2, hrep⟩ := a2 bb hcb
                refine ⟨_, hrep, fun w' hw' => ?_⟩
                simp only [Option.map_some, Builtin.firstCells]
                exact load_run ⟨l, (by unfold cellsAt at hl ⊢; rw [hw']; exact hl), by omega, rfl⟩
            obtain ⟨us, hu1, hu2⟩ := hrow
            exact fresh (g.kill id) hu1 (by omega) hbytes hu2
        · cases h
    · cases h
  · cases h

end
end Go.LM
