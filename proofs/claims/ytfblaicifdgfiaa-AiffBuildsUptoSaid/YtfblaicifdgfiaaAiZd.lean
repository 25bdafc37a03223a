/- The law lacquerlaw07.AiffBuilds return true for every input whose bulk is at most 1048576, and leave it as it was. Conditions: none beyond the rows. -/
import Derived.Test.YtfblaicifdgfiaaLmH
import Derived.Test.YtfblaicifdgfiaaAfS
import Derived.Test.YtfblaicifdgfiaaAha
import Derived.Test.YtfblaicifdgfiaaRows
import Derived.JoinedCond
import Derived.WalkKit
section
set_option linter.unusedVariables false
namespace Go.Proofs.Ytfblaicifdgfiaa.Dg
open Go.ChangeShapes Go.WideShapes Go.ChangeAt Go.RowKit Go.WideMaps Go.WideElems Go.ChangeMaps Go.LM
theorem tOwn : ownKnob Try.prog.godebug = none := by kernel_rfl
theorem tLaid : laidOutB Try.prog = true := by kernel_rfl
theorem tSz : szP Try.prog = true := by kernel_rfl
theorem isBulk {H : Type} : IsBulk (H := H) Rows.uptoBulk Rows.uptoBulkAll where
  lit bs := by simp only [Rows.uptoBulk]
  one d := by
    cases d with
    | lit l => cases l <;> simp [Rows.uptoBulk]
    | nil => simp [Rows.uptoBulk]
    | ptr d => simp [Rows.uptoBulk]
    | slice a b => simp [Rows.uptoBulk]
    | agg l => simp [Rows.uptoBulk]
    | iface a b => simp [Rows.uptoBulk]
    | map l => simp [Rows.uptoBulk]
    | held x => simp [Rows.uptoBulk]
  slice e s := by simp only [Rows.uptoBulk]
  agg l := by simp only [Rows.uptoBulk]
  nil := by simp only [Rows.uptoBulkAll]
  cons d l := by simp only [Rows.uptoBulkAll]
theorem sum_len {α : Type} (f : α → Nat) (hf : ∀ x, 1 ≤ f x) : ∀ (l : List α), l.length ≤ (l.map f).sum
  | [] => Nat.le_refl _
  | x :: l => by
    have h1 := sum_len f hf l
    have h2 := hf x
    simp only [List.map_cons, List.sum_cons, List.length_cons]; omega
theorem sum_mem {α : Type} (f : α → Nat) : ∀ (l : List α) (x : α), x ∈ l → f x ≤ (l.map f).sum
  | y :: l, x, h => by
    simp only [List.map_cons, List.sum_cons]
    rcases List.mem_cons.1 h with rfl | h
    · omega
    · have := sum_mem f l x h; omega
theorem sum_ones : ∀ (l : List Int), (List.map (α := (Ty.int .i64).D) (bulkD (.int .i64)) l).sum = l.length
  | [] => rfl
  | x :: l => by
    have := sum_ones l
    simp only [List.map_cons, List.sum_cons, List.length_cons, bulkD] at this ⊢
    omega
theorem i64_ok {x : Int} (h : okD (.int .i64) x) : -9223372036854775808 ≤ x ∧ x < 9223372036854775808 := by
  have h : (decide (IntKind.i64.min ≤ x) && decide (x ≤ IntKind.i64.max)) = true := h
  simp only [Bool.and_eq_true, decide_eq_true_eq] at h
  have e1 : IntKind.i64.min = -9223372036854775808 := by decide
  have e2 : IntKind.i64.max = 9223372036854775807 := by decide
  omega
theorem PB_of (pl : List (List Int)) (h : okD (.sl (.sl (.int .i64))) pl) (hb : bulkD (.sl (.sl (.int .i64))) pl ≤ 1048576) : PB pl := by
  have hb : (List.map (α := List Int) (bulkD (.sl (.int .i64))) pl).sum + 1 ≤ 1048576 := hb
  have e : ∀ l : List Int, bulkD (.sl (.int .i64)) l = l.length + 1 := fun l => by
    show (List.map (α := (Ty.int .i64).D) (bulkD (.int .i64)) l).sum + 1 = _
    rw [sum_ones]
  have h1 := sum_len (bulkD (.sl (.int .i64))) (fun x => by rw [e]; omega) pl
  have hlen : ∀ l ∈ pl, l.length ≤ 1048576 := fun l hl => by
    have := sum_mem (bulkD (.sl (.int .i64))) pl l hl
    rw [e] at this; omega
  have hin : ∀ l ∈ pl, ∀ x ∈ l, okD (.int .i64) x := fun l hl => (h.2 l hl).2
  refine ⟨by omega, fun i => ?_, fun i j => ?_⟩
  · by_cases hi : i < pl.length
    · rw [getD_lt _ _ hi]; exact hlen _ (List.getElem_mem hi)
    · rw [List.getD_eq_getElem?_getD, List.getElem?_eq_none (by omega)]; simp
  · by_cases hi : i < pl.length
    · rw [getD_lt _ _ hi]
      by_cases hj : j < pl[i].length
      · rw [getD_lt _ _ hj]; exact i64_ok (hin _ (List.getElem_mem hi) _ (List.getElem_mem hj))
      · rw [List.getD_eq_getElem?_getD (l := pl[i]), List.getElem?_eq_none (by omega)]; simp
    · rw [List.getD_eq_getElem?_getD (l := pl), List.getElem?_eq_none (by omega)]; simp
theorem builds_good (d : DL [.pr (.int .i64) (.pr (.int .i64) (.pr (.int .i64) (.pr (.sl (.sl (.int .i64))) .un))), .pr .str (.pr (.sl (.pr .str (.pr .str (.pr (.int .i64) .un)))) .un)]) (h : okDs [.pr (.int .i64) (.pr (.int .i64) (.pr (.int .i64) (.pr (.sl (.sl (.int .i64))) .un))), .pr .str (.pr (.sl (.pr .str (.pr .str (.pr (.int .i64) .un)))) .un)] d) (hb : bulkDs [.pr (.int .i64) (.pr (.int .i64) (.pr (.int .i64) (.pr (.sl (.sl (.int .i64))) .un))), .pr .str (.pr (.sl (.pr .str (.pr .str (.pr (.int .i64) .un)))) .un)] d ≤ 1048576) : (LQ.AiffBuilds d.1 d.2 : Option Bool) = some true := by
  obtain ⟨⟨r, c, w, pl, u⟩, form, l, u'⟩ := d
  have hb' : 1 + (1 + (1 + (bulkD (.sl (.sl (.int .i64))) pl + 0))) + (List.length (α := UInt8) form + 1 + ((List.map (α := ChunkD) (bulkD (.pr .str (.pr .str (.pr (.int .i64) .un)))) l).sum + 1 + 0)) ≤ 1048576 := hb
  have h' : okD (.sl (.sl (.int .i64))) pl := h.1.2.2.2.1
  have e : ∀ c : ChunkD, bulkD (.pr .str (.pr .str (.pr (.int .i64) .un))) c = List.length (α := UInt8) c.1 + 1 + (List.length (α := UInt8) c.2.1 + 1 + (1 + 0)) := fun c => rfl
  have h1 := sum_len (α := ChunkD) (bulkD (.pr .str (.pr .str (.pr (.int .i64) .un)))) (fun p => by rw [e]; omega) l
  have hs : ∀ l : List ChunkD, szL l ≤ (List.map (α := ChunkD) (bulkD (.pr .str (.pr .str (.pr (.int .i64) .un)))) l).sum := fun l => by
    induction l with
    | nil => exact Nat.le_refl _
    | cons p l ih =>
      show p.1.length + p.2.1.length + szL l ≤ bulkD (.pr .str (.pr .str (.pr (.int .i64) .un))) p + (List.map (α := ChunkD) (bulkD (.pr .str (.pr .str (.pr (.int .i64) .un)))) l).sum
      rw [e]; omega
  have h2 := hs l
  exact AiffBuilds_law r c w pl form l (PB_of pl h' (by omega)) (by omega) (by omega) (by omega)
set_option maxRecDepth 100000 in
theorem aiffBuilds_contract (H : Type) (enc : TypeId × Value → H) (W : World) (base : Nat) (args : Array Value) (ds gs : List (DataW H)) (before : List MemPlace)
    (hval : ∀ (j : Nat) t v, Try.f6.params[j]? = some t → args[j]? = some v → Value.okWide Try.prog W .any base t v)
    (hW : DataW.Whole enc Try.prog Try.f6.params.toList Rows.aiffBuildsSpec.vars false W args.toList ds gs before) (hk : Rows.uptoSmall H (ds ++ gs) = true) :
    Calls Try.prog 6 args W fun e W' => ∃ v, e = .returned v ∧ Rows.aiffBuildsSpec.post enc Try.prog Try.f6 false true false false W args v W' :=
  row_contract (B := 1048576) (ts := [.pr (.int .i64) (.pr (.int .i64) (.pr (.int .i64) (.pr (.sl (.sl (.int .i64))) .un))), .pr .str (.pr (.sl (.pr .str (.pr .str (.pr (.int .i64) .un)))) .un)]) (g := fun d => LQ.AiffBuilds d.1 d.2) isBulk tLaid tSz TD.AiffBuilds_ok builds_good (by kernel_rfl) (by kernel_rfl) rfl Try.underlying4 rfl
    (fun ds h => by match ds, h with | [d0, d1], _ => rfl) hval hW (of_decide_eq_true hk)
set_option maxRecDepth 100000 in
theorem aiffBuilds_lifted (os : Os) (started : os.Started) (H : Type) (enc : TypeId × Value → H) (F : Stop.Interp) :
    ReturnsInHanded {} Try.checked os 6 .any ((Rows.OpenSpec.upto Rows.aiffBuildsSpec).pre6 enc Try.prog Try.f6 Rows.aiffBuildsUptoRow.domain false) (((Rows.OpenSpec.upto Rows.aiffBuildsSpec).at F).post enc Try.prog Try.f6 false true false false) := by
  refine returnsInHanded_of_cond (C := Try.checked) (s := Rows.OpenSpec.upto Rows.aiffBuildsSpec) (k := Rows.uptoSmall) rfl tOwn started (by kernel_rfl) Try.func6
    (OpenSpec.witness (enc := enc) (C := Try.checked) (s := Rows.OpenSpec.upto Rows.aiffBuildsSpec) (k := Rows.uptoSmall) rfl false ⟨#[], #[.agg #[.int .i64 0, .int .i64 0, .int .i64 0, .slice none 0 0], .agg #[.string ⟨#[]⟩, .slice none 0 0]], []⟩ 8 (by kernel_rfl) (by kernel_rfl) (by kernel_rfl)
      (x := ([.agg [.lit (.int .i64 0), .lit (.int .i64 0), .lit (.int .i64 0), .nil], .agg [.lit (.string []), .nil]], [], [])) (by kernel_rfl) rfl (by kernel_rfl)) ?_
  intro W base args ds gs before hval hW _ hk _
  exact aiffBuilds_contract H enc W base args ds gs before hval hW hk
theorem aiffBuilds_holds : Rows.AiffBuildsUptoSaid :=
  OpenClaim.holds_of_cond 6 Try.f6 rfl rfl rfl rfl rfl rfl rfl ⟨rfl, rfl, rfl, rfl, rfl⟩ rfl rfl rfl rfl rfl (by kernel_rfl) Try.func6 (by kernel_rfl)
    (of_decide_eq_true (by kernel_rfl)) (by unfold Func.isWrapper; first | (rw [if_pos (by decide +kernel)]; kernel_rfl) | (rw [if_neg (by decide +kernel)]; exact ⟨rfl, rfl⟩))
    (fun os started H enc _ F => aiffBuilds_lifted os started H enc F)
#print axioms aiffBuilds_holds
end Go.Proofs.Ytfblaicifdgfiaa.Dg
end

