/- LM: operations that make memory. -/
import Derived.Test.YtipoadjhenjpiaaLmS10
set_option linter.unusedVariables false
set_option linter.unusedSimpArgs false
namespace Go.LM

section
variable {P : Program} {F : Nat → Prop} {w : World} {β : Nat → Option Conc}

/-- What an operation that makes a block leaves. -/
def Made (X : Cst) (F : Nat → Prop) (w : World) (β : Nat → Option Conc) (H' : Heap) (id0 : Nat) (a : AV) (r : Value) (w' : World) : Prop :=
  ∃ F' c, Good X F' w' (upd β id0 c) H' ∧ Ext F w β F' w' (upd β id0 c) ∧ RelV F' w' (upd β id0 c) a r

theorem sim_alloc {X H} (g : Good X F w β H) {id0 : Nat} (hid : β id0 = none) {T : TypeId} {ls : List AV} (h : zeroL P T = some ls) (hf : flat ls = true) (old : Value) :
    ∃ r w', (Instr.alloc T true old).run P w = .ok r w' ∧ Made X F w β (H.set id0 (.vars ls)) id0 (.ptr id0 ⟨0, []⟩) r w' := by
  obtain ⟨z, hz, hr⟩ := zeroL_rel (F := F) (w := w) (β := β) h
  obtain ⟨h1, _⟩ := zero_run (w := w) hz
  obtain ⟨c, g', ex, rv⟩ := new_vars g hid hr hf T
  refine ⟨_, _, ?_, F, c, g', ex, rv⟩
  unfold Instr.alloc
  simp only [Sem.run_bind, h1, Result.andThen_ok]
  simp only [newVar, Sem.run_bind, newRow_run, Result.andThen_ok, pure, Sem.run]

theorem sim_box {X H} (g : Good X F w β H) {id0 : Nat} (hid : β id0 = none) {T : TypeId} {a : AV} {v : Value} (ha : RelV F w β a v) (hv : isVal a = true) (hf : flat a.leaves = true) :
    ∃ r w', (Instr.box T v).run P w = .ok r w' ∧ Made X F w β (H.set id0 (.vars a.leaves)) id0 (.ptr id0 ⟨0, []⟩) r w' := by
  obtain ⟨c, g', ex, rv⟩ := new_vars g hid (ha.leaves' hv) hf T
  refine ⟨_, _, ?_, F, c, g', ex, rv⟩
  unfold Instr.box
  simp only [newVar, Sem.run_bind, newRow_run, Result.andThen_ok, pure, Sem.run]

/-- Zeros, one behind the other. -/
theorem rep_zeros {t : Ty} {z : t.D} {zc : Array Value} (hz : rep F w t z zc.toList) : ∀ n : Nat, rep F w (.ar n t) (List.replicate n z) ((List.range (n * zc.size)).map fun i => zc[i % zc.size]!) := by
  intro n
  have hs : zc.size = t.sz := by have := rep_len _ _ _ hz; simpa using this
  rw [rep_ar_iff]
  refine ⟨by simp, by simp [hs], fun i hi => ?_⟩
  simp only [List.length_replicate] at hi
  rw [List.getElem_replicate]
  have hseg : ((List.range (n * zc.size)).map fun i => zc[i % zc.size]!).drop (i * t.sz) = ((List.range (n * zc.size)).drop (i * t.sz)).map fun i => zc[i % zc.size]! := by rw [List.map_drop]
  have : (((List.range (n * zc.size)).map fun i => zc[i % zc.size]!).drop (i * t.sz)).take t.sz = zc.toList := by
    apply List.ext_getElem?
    intro j
    rw [seg_get]
    have hm : (i + 1) * t.sz ≤ n * t.sz := Nat.mul_le_mul_right _ hi
    rw [Nat.add_mul] at hm
    by_cases hj : j < t.sz
    · rw [if_pos hj]
      rw [List.getElem?_map, List.getElem?_range (by rw [hs]; omega)]
      have e : (i * t.sz + j) % zc.size = j := by
        rw [hs, Nat.mul_comm, Nat.mul_add_mod]; exact Nat.mod_eq_of_lt hj
      simp only [Option.map_some, e]
      have hj' : j < zc.size := by omega
      simp [hj', Array.getElem?_eq_getElem]
    · rw [if_neg hj, List.getElem?_eq_none (by simp; omega)]
  rw [this]
  exact hz

theorem elemTy_some {T e : TypeId} {t : Ty} (h : elemTy P T = some (e, t)) : P.underlying T = some (.slice e) ∧ tyC P e = some t := by
  unfold elemTy at h
  split at h
  · rename_i e' hT
    cases hc : tyC P e' with
    | none => rw [hc] at h; cases h
    | some q => rw [hc] at h; cases h; exact ⟨hT, hc⟩
  · cases h

theorem sim_makeSlice {X H} (g : Good X F w β H) {id0 : Nat} (hid : β id0 = none) {T e : TypeId} {t : Ty} (hT : elemTy P T = some (e, t)) {z : t.D} (hz : zeroD P e t = some z) {i j : IntKind} {x y : Int}
    (h0 : 0 ≤ x) (h1 : x ≤ y) (h2 : y.toNat * P.bytesOf e ≤ maxBytes) (hb0 : P.bytesOf e ≠ 0) :
    ∃ r w', (Instr.makeSlice T (.int i x) (.int j y)).run P w = .ok r w' ∧ Made X F w β (H.set id0 (.row t (List.replicate x.toNat z) false)) id0 (.full id0) r w' := by
  obtain ⟨hT1, hT2⟩ := elemTy_some hT
  obtain ⟨_, ⟨inf, hinf⟩, hsz, _, _⟩ := tyC_some hT2
  obtain ⟨zv, hzv, hzr⟩ := zeroD_rep (F := F) (w := w) hz
  obtain ⟨hz1, _⟩ := zero_run (w := w) hzv
  have hzs : zv.cells.size = t.sz := by have := rep_len _ _ _ hzr; simpa using this
  have hbytes : P.bytesOf e = inf.bytes := by simp [Program.bytesOf, hinf]
  have hy : y ≤ 9223372036854775807 := by
    have : y.toNat * 1 ≤ y.toNat * P.bytesOf e := Nat.mul_le_mul_left _ (by omega)
    unfold maxBytes at h2; omega
  have hwx : IntKind.i64.wrap x = x := by simp [IntKind.wrap, IntKind.signed, IntKind.bits]; omega
  have hwy : IntKind.i64.wrap y = y := by simp [IntKind.wrap, IntKind.signed, IntKind.bits]; omega
  have hrz := rep_zeros (F := F) (w := w) hzr x.toNat
  have hcells : ∃ rest, ((Array.range (y.toNat * t.sz)).map fun i => zv.cells[i % zv.cells.size]!) = (((List.range (x.toNat * zv.cells.size)).map fun i => zv.cells[i % zv.cells.size]!) ++ rest).toArray := by
    refine ⟨((List.range (y.toNat * t.sz)).map fun i => zv.cells[i % zv.cells.size]!).drop (x.toNat * t.sz), ?_⟩
    apply Array.ext'
    rw [Array.toList_map, Array.toList_range]
    rw [show x.toNat * zv.cells.size = x.toNat * t.sz by rw [hzs]]
    have hm : x.toNat * t.sz ≤ y.toNat * t.sz := Nat.mul_le_mul_right _ (by omega)
    have : (List.range (x.toNat * t.sz)).map (fun i => zv.cells[i % zv.cells.size]!) = ((List.range (y.toNat * t.sz)).map fun i => zv.cells[i % zv.cells.size]!).take (x.toNat * t.sz) := by
      rw [← List.map_take, List.take_range, Nat.min_eq_left hm]
    rw [this]; simp
  obtain ⟨rest, hrest⟩ := hcells
  obtain ⟨c, g', ex, rv⟩ := new_row g hid (t := t) (xs := List.replicate x.toNat z) (cap := y.toNat) (rest := rest) (by rw [List.length_replicate]; exact hrz) (by simp; omega) (by
    have := congrArg Array.size hrest
    simp only [Array.size_map, Array.size_range, List.size_toArray] at this
    exact this.symm) e (0, 0) (fun o _ => by simp)
  refine ⟨.slice (some ⟨w.heap.size, 0, none⟩) x.toNat y.toNat, _, ?_, F, c, g', ex, by simpa using rv⟩
  unfold Instr.makeSlice
  have hti : (typeInfo e).run P w = .ok inf w := by simp [typeInfo, hinf]
  simp only [Sem.run_bind, und hT1, Result.andThen_ok, asInt, asIntOf, pure, Sem.run, hti, hwx, hwy]
  have hle : (inf.bytes : Int) * y ≤ 140737488355328 := by
    rw [hbytes] at h2
    unfold maxBytes at h2
    have h3 : ((y.toNat * inf.bytes : Nat) : Int) ≤ ((140737488355328 : Nat) : Int) := Int.ofNat_le.mpr h2
    rw [Int.natCast_mul, Int.toNat_of_nonneg (by omega), Int.mul_comm] at h3
    generalize (inf.bytes : Int) * y = q at h3 ⊢
    omega
  have h48 : (2 : Int) ^ 48 = 281474976710656 := rfl
  have a1 : decide (y < 0) = false := decide_eq_false (by omega)
  have a2 : decide ((inf.bytes : Int) * y > 2 ^ 48) = false := decide_eq_false (by rw [h48]; omega)
  have a3 : decide (x < 0) = false := decide_eq_false (by omega)
  have a4 : decide (x > y) = false := decide_eq_false (by omega)
  rw [if_neg (by rw [a1, a2, a3, a4]; simp)]
  simp only [askRoom]
  have hroom : ¬ (y.toNat * inf.bytes > roomBytes) := by rw [hbytes] at h2; unfold maxBytes at h2; unfold roomBytes; omega
  rw [if_neg hroom]
  simp only [pure, Sem.run_bind, Sem.run, Result.andThen_ok, sizeOf_run hinf, hsz]
  by_cases hn : y.toNat * t.sz = 0
  · rw [if_pos hn]
    simp only [pure, Sem.run, Result.andThen_ok, Sem.run_bind, newRow_run]
    rw [hn] at hrest ⊢
    have e0 : ((Array.range 0).map fun i => (#[] : Array Value)[i % (#[] : Array Value).size]!) = ((Array.range 0).map fun i => zv.cells[i % zv.cells.size]!) := by simp
    rw [e0, hrest]
  · rw [if_neg hn]
    simp only [pure, Sem.run, Result.andThen_ok, Sem.run_bind, hz1, newRow_run]
    rw [hrest]

end
end Go.LM
