/- LM: packing, stores. -/
import Derived.Test.YtipoadjhenjpiaaLmS7
set_option linter.unusedVariables false
set_option linter.unusedSimpArgs false
namespace Go.LM

section
variable {P : Program} {F : Nat → Prop} {w : World} {β : Nat → Option Conc}

/-- The rows among leaves lie in foreign blocks. -/
def RowsF (F : Nat → Prop) (β : Nat → Option Conc) (H : Heap) (l : List AV) : Prop :=
  ∀ id, (AV.full id ∈ l ∨ ∃ off lo hi, AV.sub id off lo hi ∈ l) → (∃ t xs fr, H id = some (.row t xs fr)) → ∀ c b, β id = some c → c.b = some b → F b

theorem isRow_full {H : Heap} {id : Nat} (h : isRow H (.full id) = true) : ∃ t xs fr, H id = some (.row t xs fr) := by
  unfold isRow at h
  split at h
  · rename_i e; cases e; split at h
    · exact ⟨_, _, _, by assumption⟩
    · cases h
  · rename_i e; cases e
  · rename_i e _; exact absurd rfl (e id)
theorem isRow_sub {H : Heap} {id off : Nat} {lo hi : Int} (h : isRow H (.sub id off lo hi) = true) : ∃ t xs fr, H id = some (.row t xs fr) := by
  simp only [isRow] at h
  split at h
  · exact ⟨_, _, _, by assumption⟩
  · cases h

theorem elems_rep {X H} (g : Good X F w β H) {a : AV} {t : Ty} {xs : List t.D} (h : elemsOf H a = some ⟨t, xs⟩) {vs : List Value} (hr : RelC F w β a vs) (hrow : isRow H a = true) (hF : RowsF F β H [a]) : rep F w (.sl t) xs vs := by
  unfold elemsOf at h
  split at h
  · cases h; cases hr with | dat _ _ _ h => exact h
  · rename_i id
    cases hr with
    | full _ c t' len hc hsh hle =>
    obtain ⟨h1, h2, h3⟩ := arrAt_rel g h hc
    have : len = xs.length := by rw [hsh] at h1; simp [arrSh] at h1; omega
    subst this
    simp only [rep]
    refine ⟨_, _, rfl, hle, ?_⟩
    cases hb : c.b with
    | none => left; rw [h3 hb]; rfl
    | some b =>
      right
      obtain ⟨l, hl, hle2, hrep⟩ := h2 b hb
      refine ⟨b, 0, rfl, hF id (.inl (List.mem_singleton.2 rfl)) (isRow_full hrow) c b hc hb, fun i hi => ?_⟩
      obtain ⟨_, _, h5⟩ := rep_ar_iff.1 hrep
      have hm : (i + 1) * t.sz ≤ xs.length * t.sz := Nat.mul_le_mul_right _ hi
      rw [Nat.add_mul] at hm
      have := h5 i hi
      rw [seg_seg _ (by omega)] at this
      exact ⟨_, ⟨l, hl, by omega, rfl⟩, this⟩
  · rename_i id off lo hi
    split at h
    · rename_i t' ys hA
      cases h
      cases hr with
      | sub _ _ _ _ c n t' A cap hc hsh h4 h5 h6 h7 h8 =>
      obtain ⟨h1, h2, h3⟩ := arrAt_rel g hA hc
      rw [hsh] at h1; cases h1
      have hlen : (List.take (hi - lo).toNat (List.drop lo.toNat ys)).length = (hi - lo).toNat := by simp; omega
      simp only [rep]
      refine ⟨A, cap, by rw [hlen], by rw [hlen]; exact h7, ?_⟩
      rcases h8 with h8 | ⟨b, hb, rfl⟩
      · left; rw [hlen]; omega
      · right
        obtain ⟨l, hl, hle2, hrep⟩ := h2 b hb
        obtain ⟨_, _, h9⟩ := rep_ar_iff.1 hrep
        refine ⟨b, off + lo.toNat * t.sz, rfl, hF id (.inr ⟨off, lo, hi, List.mem_singleton.2 rfl⟩) (isRow_sub hrow) c b hc hb, fun i hi' => ?_⟩
        have hi'' : i < (hi - lo).toNat := by rw [← hlen]; exact hi'
        have hlt : lo.toNat + i < ys.length := by omega
        have hm : (lo.toNat + i + 1) * t.sz ≤ ys.length * t.sz := Nat.mul_le_mul_right _ hlt
        rw [Nat.add_mul, Nat.add_mul] at hm
        have := h9 (lo.toNat + i) hlt
        rw [Nat.add_mul, seg_seg _ (by omega), ← Nat.add_assoc] at this
        refine ⟨_, ⟨l, hl, by omega, rfl⟩, ?_⟩
        have hg : List.get (List.take (hi - lo).toNat (List.drop lo.toNat ys)) ⟨i, hi'⟩ = ys[lo.toNat + i] := by simp
        rw [hg]
        exact this
    · cases h
  · cases h

theorem asList_rep {X H} (g : Good X F w β H) {a : AV} {t : Ty} {xs : List t.D} (h : asList H t a = some xs) {vs : List Value} (hr : RelC F w β a vs) (hrow : isRow H a = true) (hF : RowsF F β H [a]) : rep F w (.sl t) xs vs := by
  unfold asList at h
  split at h
  · cases h; cases hr; simp only [rep]; exact ⟨none, 0, rfl, Nat.le_refl _, .inl rfl⟩
  · split at h
    · rename_i t' ys hE
      obtain ⟨rfl, rfl⟩ := castL_some h
      exact elems_rep g hE hr hrow hF
    · cases h

theorem RowsF.cons {H : Heap} {a : AV} {l : List AV} (h : RowsF F β H (a :: l)) : RowsF F β H [a] ∧ RowsF F β H l :=
  ⟨fun id hid => h id (hid.imp (fun h => List.mem_cons.2 (.inl (List.mem_singleton.1 h))) fun ⟨o, lo, hi, h⟩ => ⟨o, lo, hi, List.mem_cons.2 (.inl (List.mem_singleton.1 h))⟩),
   fun id hid => h id (hid.imp (fun h => List.mem_cons_of_mem _ h) fun ⟨o, lo, hi, h⟩ => ⟨o, lo, hi, List.mem_cons_of_mem _ h⟩)⟩

theorem packU_rep {X H} (g : Good X F w β H) (rows : Bool) : ∀ (u : Ty) (l : List AV) (x : u.D) (rest : List AV) (vs : List Value), packU H rows u l = some (x, rest) → RelCs F w β l vs → (rows = true → RowsF F β H l) →
    ∃ us ws, vs = us ++ ws ∧ rep F w u x us ∧ RelCs F w β rest ws ∧ (rows = true → RowsF F β H rest) := by
  intro u
  have leaf : ∀ (u : Ty) (l : List AV) (x : u.D) (rest : List AV) (vs : List Value), (match l with | .dat t y :: r => (cast' y).map fun z => (z, r) | _ => none) = some (x, rest) → RelCs F w β l vs → (rows = true → RowsF F β H l) →
      ∃ us ws, vs = us ++ ws ∧ rep F w u x us ∧ RelCs F w β rest ws ∧ (rows = true → RowsF F β H rest) := by
    intro u l x rest vs h hr hF
    split at h
    · rename_i t y r
      cases hy : cast' (b := u) y with
      | none => rw [hy] at h; cases h
      | some z =>
        rw [hy] at h; cases h
        cases hr with
        | cons _ _ us vs h1 h2 h3 =>
        cases h1 with
        | dat _ _ _ h1 => exact ⟨us, vs, rfl, (cast'_rep hy h1).2, h3, fun e => (hF e).cons.2⟩
    · cases h
  induction u with
  | un => intro l x rest vs h hr hF; simp only [packU] at h; cases h; exact ⟨[], vs, rfl, by simp [rep], hr, hF⟩
  | pr a b iha ihb =>
    intro l x rest vs h hr hF
    simp only [packU] at h
    have comp : ((packU H rows a l).bind fun p => (packU H rows b p.2).bind fun q => some ((p.1, q.1), q.2)) = some (x, rest) → ∃ us ws, vs = us ++ ws ∧ rep F w (.pr a b) x us ∧ RelCs F w β rest ws ∧ (rows = true → RowsF F β H rest) := by
      intro h
      cases h1 : packU H rows a l with
      | none => rw [h1] at h; cases h
      | some p =>
        obtain ⟨y, l1⟩ := p
        rw [h1] at h
        simp only [Option.bind_some] at h
        cases h2 : packU H rows b l1 with
        | none => rw [h2] at h; cases h
        | some q =>
          obtain ⟨z, l2⟩ := q
          rw [h2] at h; cases h
          obtain ⟨us, ws, rfl, h3, h4, h5⟩ := iha _ _ _ _ h1 hr hF
          obtain ⟨us', ws', rfl, h6, h7, h8⟩ := ihb _ _ _ _ h2 h4 h5
          refine ⟨us ++ us', ws', by simp, ?_, h7, h8⟩
          simp only [rep]
          exact ⟨us, us', rfl, h3, h6⟩
    split at h
    · rename_i t y r
      split at h
      · exact leaf _ (.dat t y :: r) _ _ _ h hr hF
      · exact comp h
    · exact comp h
  | sl e ih =>
    intro l x rest vs h hr hF
    simp only [packU] at h
    split at h
    · cases h
      cases hr with
      | cons _ _ us vs h1 h2 h3 =>
      cases h1
      refine ⟨[_], vs, rfl, ?_, h3, fun e => (hF e).cons.2⟩
      simp only [rep]; exact ⟨none, 0, rfl, Nat.le_refl _, .inl rfl⟩
    · rename_i t y r
      exact leaf (.sl e) (.dat t y :: r) _ _ _ h hr hF
    · rename_i a r _ _
      split at h
      · rename_i hrows
        simp only [Bool.and_eq_true] at hrows
        cases hy : asList H e a with
        | none => rw [hy] at h; cases h
        | some z =>
          rw [hy] at h; cases h
          cases hr with
          | cons _ _ us vs h1 h2 h3 =>
          exact ⟨us, vs, rfl, asList_rep g hy h1 hrows.2 (hF hrows.1).cons.1, h3, fun e => (hF e).cons.2⟩
      · cases h
    · cases h
  | int k => intro l x rest vs h hr hF; exact leaf (.int k) l x rest vs h hr hF
  | bool => intro l x rest vs h hr hF; exact leaf .bool l x rest vs h hr hF
  | str => intro l x rest vs h hr hF; exact leaf .str l x rest vs h hr hF
  | ar n e => intro l x rest vs h hr hF; exact leaf (.ar n e) l x rest vs h hr hF

theorem RelV.leaves' {a : AV} {v : Value} (h : RelV F w β a v) (hv : isVal a = true) : RelCs F w β a.leaves v.cells.toList :=
  h.leaves (fun xs e => by subst e; cases hv) (fun e => by subst e; cases hv)

theorem pack_rep {X H} (g : Good X F w β H) {rows : Bool} {u : Ty} {a : AV} {x : u.D} (h : pack H rows u a = some x) {v : Value} (hr : RelV F w β a v) (hF : rows = true → RowsF F β H a.leaves) : rep F w u x v.cells.toList := by
  unfold pack at h
  split at h
  · rename_i hv
    split at h
    · rename_i y hp
      cases h
      obtain ⟨us, ws, h1, h2, h3, _⟩ := packU_rep g rows u _ _ _ _ hp (hr.leaves' hv) hF
      cases h3
      rw [h1, List.append_nil]
      exact h2
    · cases h
  · cases h

/-- What a value has of cells, if it is no tuple. -/
theorem isVal_of_cells {a : AV} {n : Nat} (h : cellsL a.leaves = n) (hn : n ≠ 0) : isVal a = true := by
  cases a <;> simp [isVal, AV.leaves, cellsL, AV.csz] at h ⊢ <;> omega

/-- A block of one's own, its cells written anew. -/
theorem write_run {X H} (g : Good X F w β H) {id b : Nat} {c : Conc} (hid : β id = some c) (hown : ownB (H id) = true) (hb : c.b = some b) {l : List Value} (hl : cellsAt w b = some l) {k : Nat} {us : List Value}
    (hle : k + us.length ≤ l.length) (hone : ∀ v ∈ us, v.oneCell' = true) (hfr : ∀ o, o < l.length → w.frozen? ⟨b, o, none⟩ = false) {blk : Blk}
    (hB : ∀ w', Ext F w β F w' β → cellsAt w' b = some (splice l k us) → (∀ o, w'.frozen? ⟨b, o, none⟩ = w.frozen? ⟨b, o, none⟩) → BRel F w' β c blk) (hown' : blk ≠ .dead → ownB (some blk) = true) :
    ∃ w', (storeCells ⟨b, k, none⟩ us).run P w = .ok () w' ∧ Good X F w' β (H.set id blk) ∧ Ext F w β F w' β := by
  obtain ⟨w', h1, h2, h3, h4, h5, h6⟩ := store_run (P := P) us w b k 0 l hl (by omega) (fun j hj => by
    rcases Nat.lt_or_ge (k + 0 + j) l.length with hh | hh
    · rw [hfr _ hh] at hj; cases hj
    · omega) hone
  rw [Nat.add_zero] at h4
  obtain ⟨o1, o2, o3⟩ := g.own id c b hid hown hb
  have ex : Ext F w β F w' β := ⟨fun b' h => ⟨h, cellsAt_of_heap (h3 b' fun e => o1 (e ▸ h))⟩, fun _ _ h => h⟩
  obtain ⟨g', e'⟩ := g.write hid hown hb (w' := w') h3 h2 h6 (hB w' ex h4 (fun o => h5 b o)) hown'
  exact ⟨w', h1, g', e'⟩

theorem storeVar_run {T : TypeId} {v : Value} (hi : ∃ i, P.info? T = some i) (hv : v.cells.size = P.cellsOf T) (a : Addr) : (storeVar T a v).run P w = (storeCells a v.cells.toList).run P w := by
  obtain ⟨i, hi⟩ := hi
  unfold storeVar
  simp only [Sem.run_bind, sizeOf_run hi, Result.andThen_ok]
  rw [if_neg (by simp [hv])]

theorem info_of_cells {T : TypeId} (h : P.cellsOf T ≠ 0) : ∃ i, P.info? T = some i := by
  cases hi : P.info? T with
  | none => exact absurd (by simp [Program.cellsOf, hi]) h
  | some i => exact ⟨i, rfl⟩

/-- A row or an array, its elements written anew. -/
theorem setArr_write {X H H'} (g : Good X F w β H) {id off b : Nat} {c : Conc} (hc : β id = some c) (hb : c.b = some b) {t : Ty} {xs ys : List t.D} (hA : arrAt H id off = some ⟨t, xs⟩) (hS : setArr H id off t ys = some H')
    (hlen : ys.length = xs.length) {l : List Value} (hl : cellsAt w b = some l) {k : Nat} {us : List Value} (hk : off ≤ k) (hk2 : k + us.length ≤ off + xs.length * t.sz) (hone : ∀ v ∈ us, v.oneCell' = true)
    (hnew : rep F w (.ar xs.length t) ys (((splice l k us).drop off).take (xs.length * t.sz))) :
    ∃ w', (storeCells ⟨b, k, none⟩ us).run P w = .ok () w' ∧ Good X F w' β H' ∧ Ext F w β F w' β := by
  obtain ⟨ha1, ha2, ha3⟩ := arrAt_rel g hA hc
  obtain ⟨l', hl', hle', hrep⟩ := ha2 b hb
  rw [hl] at hl'; cases hl'
  have hsplen : (splice l k us).length = l.length := splice_len _ _ _ (by omega)
  unfold setArr at hS
  obtain ⟨blk, hb1, hb2⟩ := g.hr id c hc
  rw [hb1] at hS
  unfold arrAt at hA
  rw [hb1] at hA
  cases blk with
  | dead => cases hA
  | row t' zs fr =>
    simp only at hA hS
    split at hA
    · rename_i hoff
      subst hoff
      cases hA
      split at hS
      · rename_i hfr
        obtain ⟨_, rfl⟩ := hfr
        cases hq : castL (u := t) ys with
        | none => rw [hq] at hS; cases hS
        | some q =>
          rw [hq] at hS; cases hS
          obtain rfl : ys = q := by obtain ⟨e, h⟩ := castL_some hq; exact h.symm
          obtain ⟨r1, r2, r3, r4⟩ := hb2
          obtain ⟨⟨l2, hl2, hsz2, hrr⟩, r5, r6⟩ := r4 b hb
          rw [hl] at hl2; cases hl2
          refine write_run (P := P) g hc (by rw [hb1]; rfl) hb hl (k := k) (us := us) (by omega) hone (fun o ho => r6 rfl o (by omega)) (blk := .row t ys false) ?_ (fun _ => rfl)
          intro w' ex hcl hf
          refine ⟨by rw [hlen]; exact r1, by rw [hlen]; exact r2, fun e => ?_, fun b' hb' => ?_⟩
          · have h9 := r3 e
            have h8 := h9.1
            subst h8
            exact ⟨List.eq_nil_of_length_eq_zero hlen, h9.2⟩
          · rw [hb] at hb'; cases hb'
            refine ⟨⟨_, hcl, by rw [hsplen]; exact hsz2, fun j hj => ?_⟩, (fun e => by cases e), fun _ o ho => (hf o).trans (r6 rfl o ho)⟩
            obtain ⟨_, _, h11⟩ := rep_ar_iff.1 (rep_mono ex.f _ _ _ hnew)
            have h12 := h11 j hj
            have hm2 : (j + 1) * t.sz ≤ xs.length * t.sz := Nat.mul_le_mul_right _ (by omega)
            rw [Nat.add_mul] at hm2
            rw [seg_seg _ (by omega), Nat.zero_add] at h12
            exact h12
      · cases hS
    · cases hA
  | vars cs =>
    simp only at hA hS
    split at hA
    · rename_i n t' zs hleaf
      cases hA
      rw [hleaf] at hS
      simp only at hS
      cases hq : castL (u := t) ys with
      | none => rw [hq] at hS; cases hS
      | some q =>
        rw [hq] at hS
        obtain rfl : ys = q := by obtain ⟨e, h⟩ := castL_some hq; exact h.symm
        simp only [Option.bind_some] at hS
        cases hs : setLeaf cs off (.dat (.ar n t) ys) with
        | none => rw [hs] at hS; cases hS
        | some cs' =>
          rw [hs] at hS; cases hS
          obtain ⟨⟨hs1, hs2⟩, b', hb', ⟨cl, hcl, hrel⟩, hfz⟩ := hb2
          rw [hb] at hb'; cases hb'
          rw [hl] at hcl; cases hcl
          obtain ⟨hv1, hv2⟩ := leafAt_rel _ _ _ _ hleaf hrel
          have hn : xs.length = n := by
            cases hv2 with
            | dat _ _ _ h => exact (rep_ar_iff.1 h).1
          subst hn
          have hnl := rep_len _ _ _ hnew
          have hset := setLeaf_rel _ _ _ _ _ _ _ hleaf hs hrel (.dat _ _ _ hnew) (by rw [hnl]; rfl) rfl
          obtain ⟨hsh1, hsh2⟩ := setLeaf_sh _ _ _ _ _ hleaf hs rfl rfl
          have heq : splice l off (((splice l k us).drop off).take (xs.length * t.sz)) = splice l k us := by
            rw [splice_in _ _ _ _ _ hk hk2 hle', splice_splice _ _ _ _ _ (by omega) hle']
            congr 1; omega
          rw [heq] at hset
          refine write_run (P := P) g hc (by rw [hb1]; rfl) hb hl (k := k) (us := us) (by omega) hone (fun o ho => hfz o) (blk := .vars cs') ?_ (fun _ => rfl)
          intro w' ex hcl hf
          exact ⟨⟨by rw [hsh1]; exact hs1, by rw [hsh2]; exact hs2⟩, b, hb, ⟨_, hcl, hset.mono ex⟩, fun o => (hf o).trans (hfz o)⟩
    · cases hA

theorem sim_store {X H H'} (g : Good X F w β H) {T : TypeId} {a v : AV} {u val : Value} (h : exStore P T H a v = some H') (ha : RelV F w β a u) (hv : RelV F w β v val) :
    ∃ w', (Instr.storeAt T u val).run P w = .ok () w' ∧ Good X F w' β H' ∧ Ext F w β F w' β := by
  unfold exStore at h
  split at h
  · rename_i id p
    obtain ⟨c, b, o, rfl, hc, hb, ho⟩ := ha.ptr_inv
    have hrun : ∀ w'', (storeCells ⟨b, o, none⟩ val.cells.toList).run P w = .ok () w'' → (∃ i, P.info? T = some i) → val.cells.size = P.cellsOf T → (Instr.storeAt T (.pointer (some ⟨b, o, none⟩)) val).run P w = .ok () w'' := by
      intro w'' h1 h2 h3
      unfold Instr.storeAt
      simp only [Sem.run_bind, Instr.sureAddr, pure, Sem.run, Result.andThen_ok]
      rw [storeVar_run h2 h3]
      exact h1
    split at h
    · rename_i hp
      split at h
      · rename_i cs hH
        split at h
        · rename_i hsz
          cases hq : putL cs p.off (P.cellsOf T) v.leaves with
          | none => rw [hq] at h; cases h
          | some cs' =>
            rw [hq] at h
            simp only [Option.bind_some] at h
            split at h
            · rename_i hsh
              cases h
              obtain ⟨blk, hb1, hb2⟩ := g.hr id c hc
              rw [hH] at hb1; cases hb1
              obtain ⟨⟨hs1, hs2⟩, b', hb', ⟨cl, hcl, hrel⟩, hfz⟩ := hb2
              rw [hb] at hb'; cases hb'
              have hoo : o = p.off := by unfold placeOf at ho; rw [hp] at ho; cases ho; rfl
              subst hoo
              have hval := hv.leaves' (isVal_of_cells hsz.1 hsz.2)
              have hvlen : val.cells.toList.length = P.cellsOf T := by rw [hval.len]; exact hsz.1
              obtain ⟨h1, h2⟩ := putL_rel _ _ _ _ _ _ _ hq hrel hval hvlen
              obtain ⟨w', hw1, hw2, hw3⟩ := write_run (P := P) g hc (by rw [hH]; rfl) hb hcl (k := p.off) (us := val.cells.toList) (by omega) hval.oneC (fun o _ => hfz o) (blk := .vars cs')
                (fun w' ex hl hf => ⟨⟨by rw [hs1, hsh.1], hsh.2⟩, b, hb, ⟨_, hl, h2.mono ex⟩, fun o => (hf o).trans (hfz o)⟩) (fun _ => rfl)
              exact ⟨w', hrun w' hw1 (info_of_cells hsz.2) (by simpa using hvlen), hw2, hw3⟩
            · cases h
        · cases h
      · cases h
    · rename_i i o' rest hp
      split at h
      · rename_i t xs hA
        cases hT : tyC P T with
        | none => rw [hT] at h; cases h
        | some q =>
        rw [hT] at h
        simp only [Option.bind_some] at h
        cases hy : pack H false q v with
        | none => rw [hy] at h; cases h
        | some y =>
        rw [hy] at h
        simp only [Option.bind_some] at h
        cases hz : setP rest t (xs.getD i.toNat t.dflt) o' q y with
        | none => rw [hz] at h; cases h
        | some z =>
        rw [hz] at h
        simp only [Option.bind_some] at h
        obtain ⟨_, hinf, hsz, _, _⟩ := tyC_some hT
        have hval := pack_rep g hy hv (fun e => by cases e)
        have hvlen := rep_len _ _ _ hval
        obtain ⟨hin, l, k', hl, hk', rfl, hle, hr⟩ := elem_at g hp hA hc hb ho
        obtain ⟨h8, h9⟩ := setP_rep _ _ _ _ _ _ _ _ _ _ hr hval hz hk'
        have hlen := rep_len _ _ _ hr
        have hone := rep_one _ _ _ hval
        -- the array as a whole
        obtain ⟨ha1, ha2, ha3⟩ := arrAt_rel g hA hc
        obtain ⟨l', hl', hle', hrep⟩ := ha2 b hb
        rw [hl] at hl'; cases hl'
        have hm : (i.toNat + 1) * t.sz ≤ xs.length * t.sz := Nat.mul_le_mul_right _ (by omega)
        rw [Nat.add_mul] at hm
        have hnew : rep F w (.ar xs.length t) (xs.set i.toNat z) (splice ((l.drop p.off).take (xs.length * t.sz)) (i.toNat * t.sz + k') val.cells.toList) := by
          have h10 := ar_set hrep (i := i.toNat) (by omega) h9
          have e1 := splice_splice ((l.drop p.off).take (xs.length * t.sz)) val.cells.toList (i.toNat * t.sz) t.sz k' (by omega) (by simp; omega)
          rw [seg_seg _ (show i.toNat * t.sz + t.sz ≤ xs.length * t.sz by omega)] at e1
          rw [e1] at h10
          exact h10
        have hseg : ((splice l (p.off + i.toNat * t.sz + k') val.cells.toList).drop p.off).take (xs.length * t.sz) = splice ((l.drop p.off).take (xs.length * t.sz)) (i.toNat * t.sz + k') val.cells.toList := by
          rw [splice_in _ _ _ _ _ (by omega) (by omega) (by omega)]
          congr 1; omega
        rw [← hseg] at hnew
        obtain ⟨w', hw1, hw2, hw3⟩ := setArr_write (P := P) g hc hb hA h (by rw [List.length_set]) hl (by omega) (by omega) hone hnew
        exact ⟨w', hrun w' hw1 hinf (by rw [hsz]; simpa using hvlen), hw2, hw3⟩
      · cases h
  · cases h

end
end Go.LM
