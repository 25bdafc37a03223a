/- The law lacquerlaw05.PcmCuts return true for every input whose bulk is at most 1048576, and leave it as it was. Conditions: none beyond the rows. -/
import Derived.Test.YtipoadjhenjpiaaLmH
import Derived.Test.YtipoadjhenjpiaaPcC
import Derived.Test.YtipoadjhenjpiaaPcD
import Derived.Test.YtipoadjhenjpiaaPcF
import Derived.Test.YtipoadjhenjpiaaRows
import Derived.JoinedCond
import Derived.WalkKit
section
/- THE CLAIM. The law lacquerlaw05.PcmCuts return true for every input whose bulk is at most 1048576, and leave it as it was. Conditions: none beyond the rows. -/
set_option linter.unusedVariables false
namespace Go.Proofs.Ytipoadjhenjpiaa.Dg
open Go.ChangeShapes Go.WideShapes Go.ChangeAt Go.RowKit Go.WideMaps Go.WideElems Go.ChangeMaps Go.LM

theorem cuts_good (d : DL [.pr (.int .i64) (.pr (.int .i64) (.pr (.int .i64) (.pr (.sl (.sl (.int .i64))) .un))), .int .i64, .int .i64]) (h : okDs [.pr (.int .i64) (.pr (.int .i64) (.pr (.int .i64) (.pr (.sl (.sl (.int .i64))) .un))), .int .i64, .int .i64] d) (hb : bulkDs [.pr (.int .i64) (.pr (.int .i64) (.pr (.int .i64) (.pr (.sl (.sl (.int .i64))) .un))), .int .i64, .int .i64] d ≤ 1048576) : (LQ.PcmCuts d.1 d.2.1 d.2.2 : Option Bool) = some true := by
  obtain ⟨⟨r, c, w, pl, u⟩, a, b⟩ := d
  have hb' : 1 + (1 + (1 + (bulkD (.sl (.sl (.int .i64))) pl + 0))) + (1 + (1 + 0)) ≤ 1048576 := hb
  exact PcmCuts_law r c w pl a b (PB_of pl h.1.2.2.2.1 (by omega))

theorem pcmCuts_contract (H : Type) (enc : TypeId × Value → H) (W : World) (base : Nat) (args : Array Value) (ds gs : List (DataW H)) (before : List MemPlace)
    (hval : ∀ (j : Nat) t v, Try.f10.params[j]? = some t → args[j]? = some v → Value.okWide Try.prog W .any base t v)
    (hW : DataW.Whole enc Try.prog Try.f10.params.toList Rows.pcmCutsSpec.vars false W args.toList ds gs before) (hk : Rows.uptoSmall H (ds ++ gs) = true) :
    Calls Try.prog 10 args W fun e W' => ∃ v, e = .returned v ∧ Rows.pcmCutsSpec.post enc Try.prog Try.f10 false true false false W args v W' :=
  row_contract (B := 1048576) (ts := [.pr (.int .i64) (.pr (.int .i64) (.pr (.int .i64) (.pr (.sl (.sl (.int .i64))) .un))), .int .i64, .int .i64]) (g := fun d => LQ.PcmCuts d.1 d.2.1 d.2.2) isBulk tLaid tSz TD.PcmCuts_ok cuts_good (by kernel_rfl) (by kernel_rfl) rfl Try.underlying4 rfl
    (fun ds h => by match ds, h with | [d0, d1, d2], _ => rfl) hval hW (of_decide_eq_true hk)

set_option maxRecDepth 100000 in
theorem pcmCuts_lifted (os : Os) (started : os.Started) (H : Type) (enc : TypeId × Value → H) (F : Stop.Interp) :
    ReturnsInHanded {} Try.checked os 10 .any ((Rows.OpenSpec.upto Rows.pcmCutsSpec).pre6 enc Try.prog Try.f10 Rows.pcmCutsUptoRow.domain false) (((Rows.OpenSpec.upto Rows.pcmCutsSpec).at F).post enc Try.prog Try.f10 false true false false) := by
  refine returnsInHanded_of_cond (C := Try.checked) (s := Rows.OpenSpec.upto Rows.pcmCutsSpec) (k := Rows.uptoSmall) rfl tOwn started (by kernel_rfl) Try.func10
    (OpenSpec.witness (enc := enc) (C := Try.checked) (s := Rows.OpenSpec.upto Rows.pcmCutsSpec) (k := Rows.uptoSmall) rfl false ⟨#[], #[.agg #[.int .i64 0, .int .i64 0, .int .i64 0, .slice none 0 0], .int .i64 0, .int .i64 0], []⟩ 8 (by kernel_rfl) (by kernel_rfl) (by kernel_rfl)
      (x := ([.agg [.lit (.int .i64 0), .lit (.int .i64 0), .lit (.int .i64 0), .nil], .lit (.int .i64 0), .lit (.int .i64 0)], [], [])) (by kernel_rfl) rfl (by kernel_rfl)) ?_
  intro W base args ds gs before hval hW _ hk _
  exact pcmCuts_contract H enc W base args ds gs before hval hW hk

/-- THE STATEMENT. -/
theorem pcmCuts_holds : Rows.PcmCutsUptoSaid :=
  OpenClaim.holds_of_cond 10 Try.f10 rfl rfl rfl rfl rfl rfl rfl ⟨rfl, rfl, rfl, rfl, rfl⟩ rfl rfl rfl rfl rfl (by kernel_rfl) Try.func10 (by kernel_rfl)
    (of_decide_eq_true (by kernel_rfl)) (by unfold Func.isWrapper; first | (rw [if_pos (by decide +kernel)]; kernel_rfl) | (rw [if_neg (by decide +kernel)]; exact ⟨rfl, rfl⟩))
    (fun os started H enc _ F => pcmCuts_lifted os started H enc F)
#print axioms pcmCuts_holds
end Go.Proofs.Ytipoadjhenjpiaa.Dg
end

