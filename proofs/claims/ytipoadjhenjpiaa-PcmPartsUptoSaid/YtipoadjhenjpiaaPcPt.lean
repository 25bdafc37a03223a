/- The law lacquerlaw05.PcmParts return true for every input whose bulk is at most 1048576, and leave it as it was. Conditions: none beyond the rows. -/
import Derived.Test.YtipoadjhenjpiaaLmH
import Derived.Test.YtipoadjhenjpiaaPcC
import Derived.Test.YtipoadjhenjpiaaPcD
import Derived.Test.YtipoadjhenjpiaaPcF
import Derived.Test.YtipoadjhenjpiaaRows
import Derived.JoinedCond
import Derived.WalkKit
section
/- THE CLAIM. The law lacquerlaw05.PcmParts return true for every input whose bulk is at most 1048576, and leave it as it was. Conditions: none beyond the rows. -/
set_option linter.unusedVariables false
namespace Go.Proofs.Ytipoadjhenjpiaa.Dg
open Go.ChangeShapes Go.WideShapes Go.ChangeAt Go.RowKit Go.WideMaps Go.WideElems Go.ChangeMaps Go.LM

theorem parts_good (d : DL [.sl (.pr (.int .i64) (.pr (.int .i64) (.pr (.int .i64) (.pr (.sl (.sl (.int .i64))) .un)))), .int .i64, .int .i64]) (h : okDs [.sl (.pr (.int .i64) (.pr (.int .i64) (.pr (.int .i64) (.pr (.sl (.sl (.int .i64))) .un)))), .int .i64, .int .i64] d) (hb : bulkDs [.sl (.pr (.int .i64) (.pr (.int .i64) (.pr (.int .i64) (.pr (.sl (.sl (.int .i64))) .un)))), .int .i64, .int .i64] d ≤ 1048576) : (LQ.PcmParts d.1 d.2.1 d.2.2 : Option Bool) = some true := by
  obtain ⟨l, f, t⟩ := d
  have hb' : (List.map (α := PCM) (bulkD (.pr (.int .i64) (.pr (.int .i64) (.pr (.int .i64) (.pr (.sl (.sl (.int .i64))) .un))))) l).sum + 1 + (1 + (1 + 0)) ≤ 1048576 := hb
  have e : ∀ p : PCM, bulkD (.pr (.int .i64) (.pr (.int .i64) (.pr (.int .i64) (.pr (.sl (.sl (.int .i64))) .un)))) p = 1 + (1 + (1 + (bulkD (.sl (.sl (.int .i64))) p.2.2.2.1 + 0))) := fun p => rfl
  have h1 := sum_len (α := PCM) (bulkD (.pr (.int .i64) (.pr (.int .i64) (.pr (.int .i64) (.pr (.sl (.sl (.int .i64))) .un))))) (fun p => by rw [e]; omega) l
  have hok : ∀ p ∈ l, okD (.pr (.int .i64) (.pr (.int .i64) (.pr (.int .i64) (.pr (.sl (.sl (.int .i64))) .un)))) p := h.1.2
  have hB : ∀ p ∈ l, PB p.2.2.2.1 := fun p hp => by
    have := sum_mem (α := PCM) (bulkD (.pr (.int .i64) (.pr (.int .i64) (.pr (.int .i64) (.pr (.sl (.sl (.int .i64))) .un))))) l p hp
    rw [e] at this
    exact PB_of _ (hok p hp).2.2.2.1 (by omega)
  have e1 : ∀ l : List Int, bulkD (.sl (.int .i64)) l = l.length + 1 := fun l => by
    show (List.map (α := (Ty.int .i64).D) (bulkD (.int .i64)) l).sum + 1 = _
    rw [sum_ones]
  have hs : ∀ l : List PCM, sumL l ≤ (List.map (α := PCM) (bulkD (.pr (.int .i64) (.pr (.int .i64) (.pr (.int .i64) (.pr (.sl (.sl (.int .i64))) .un))))) l).sum := fun l => by
    induction l with
    | nil => exact Nat.le_refl _
    | cons p l ih =>
      have h2 : (p.2.2.2.1.getD 0 []).length ≤ bulkD (.sl (.sl (.int .i64))) p.2.2.2.1 := by
        show _ ≤ (List.map (α := List Int) (bulkD (.sl (.int .i64))) p.2.2.2.1).sum + 1
        cases hp : p.2.2.2.1 with
        | nil => simp
        | cons a m => simp only [List.getD_cons_zero, List.map_cons, List.sum_cons, e1]; omega
      show (p.2.2.2.1.getD 0 []).length + sumL l ≤ bulkD (.pr (.int .i64) (.pr (.int .i64) (.pr (.int .i64) (.pr (.sl (.sl (.int .i64))) .un)))) p + (List.map (α := PCM) (bulkD (.pr (.int .i64) (.pr (.int .i64) (.pr (.int .i64) (.pr (.sl (.sl (.int .i64))) .un))))) l).sum
      rw [e]; omega
  refine PcmParts_law l f t (by omega) (fun k => ?_) (Nat.le_trans (hs l) (by omega))
  by_cases hk : k < l.length
  · rw [getD_lt _ _ hk]; exact hB _ (List.getElem_mem hk)
  · rw [List.getD_eq_getElem?_getD, List.getElem?_eq_none (by omega)]
    exact ⟨by simp [zPcm], fun i => by simp [zPcm], fun i j => by simp [zPcm]⟩

theorem pcmParts_contract (H : Type) (enc : TypeId × Value → H) (W : World) (base : Nat) (args : Array Value) (ds gs : List (DataW H)) (before : List MemPlace)
    (hval : ∀ (j : Nat) t v, Try.f11.params[j]? = some t → args[j]? = some v → Value.okWide Try.prog W .any base t v)
    (hW : DataW.Whole enc Try.prog Try.f11.params.toList Rows.pcmPartsSpec.vars false W args.toList ds gs before) (hk : Rows.uptoSmall H (ds ++ gs) = true) :
    Calls Try.prog 11 args W fun e W' => ∃ v, e = .returned v ∧ Rows.pcmPartsSpec.post enc Try.prog Try.f11 false true false false W args v W' :=
  row_contract (B := 1048576) (ts := [.sl (.pr (.int .i64) (.pr (.int .i64) (.pr (.int .i64) (.pr (.sl (.sl (.int .i64))) .un)))), .int .i64, .int .i64]) (g := fun d => LQ.PcmParts d.1 d.2.1 d.2.2) isBulk tLaid tSz TD.PcmParts_ok parts_good (by kernel_rfl) (by kernel_rfl) rfl Try.underlying4 rfl
    (fun ds h => by match ds, h with | [d0, d1, d2], _ => rfl) hval hW (of_decide_eq_true hk)

set_option maxRecDepth 100000 in
theorem pcmParts_lifted (os : Os) (started : os.Started) (H : Type) (enc : TypeId × Value → H) (F : Stop.Interp) :
    ReturnsInHanded {} Try.checked os 11 .any ((Rows.OpenSpec.upto Rows.pcmPartsSpec).pre6 enc Try.prog Try.f11 Rows.pcmPartsUptoRow.domain false) (((Rows.OpenSpec.upto Rows.pcmPartsSpec).at F).post enc Try.prog Try.f11 false true false false) := by
  refine returnsInHanded_of_cond (C := Try.checked) (s := Rows.OpenSpec.upto Rows.pcmPartsSpec) (k := Rows.uptoSmall) rfl tOwn started (by kernel_rfl) Try.func11
    (OpenSpec.witness (enc := enc) (C := Try.checked) (s := Rows.OpenSpec.upto Rows.pcmPartsSpec) (k := Rows.uptoSmall) rfl false ⟨#[], #[.slice none 0 0, .int .i64 0, .int .i64 0], []⟩ 8 (by kernel_rfl) (by kernel_rfl) (by kernel_rfl)
      (x := ([.nil, .lit (.int .i64 0), .lit (.int .i64 0)], [], [])) (by kernel_rfl) rfl (by kernel_rfl)) ?_
  intro W base args ds gs before hval hW _ hk _
  exact pcmParts_contract H enc W base args ds gs before hval hW hk

/-- THE STATEMENT. -/
theorem pcmParts_holds : Rows.PcmPartsUptoSaid :=
  OpenClaim.holds_of_cond 11 Try.f11 rfl rfl rfl rfl rfl rfl rfl ⟨rfl, rfl, rfl, rfl, rfl⟩ rfl rfl rfl rfl rfl (by kernel_rfl) Try.func11 (by kernel_rfl)
    (of_decide_eq_true (by kernel_rfl)) (by unfold Func.isWrapper; first | (rw [if_pos (by decide +kernel)]; kernel_rfl) | (rw [if_neg (by decide +kernel)]; exact ⟨rfl, rfl⟩))
    (fun os started H enc _ F => pcmParts_lifted os started H enc F)
#print axioms pcmParts_holds
end Go.Proofs.Ytipoadjhenjpiaa.Dg
end

