/- The law lacquerlaw05.PcmPacks return true for every input whose bulk is at most 1048576, and leave it as it was. Conditions: none beyond the rows. -/
import Derived.Test.YtipoadjhenjpiaaLmH
import Derived.Test.YtipoadjhenjpiaaPcC
import Derived.Test.YtipoadjhenjpiaaPcD
import Derived.Test.YtipoadjhenjpiaaPcE
import Derived.Test.YtipoadjhenjpiaaRows
import Derived.JoinedCond
import Derived.WalkKit
section
/- THE CLAIM. The law lacquerlaw05.PcmPacks return true for every input whose bulk is at most 1048576, and leave it as it was. Conditions: none beyond the rows. -/
set_option linter.unusedVariables false
namespace Go.Proofs.Ytipoadjhenjpiaa.Dg
open Go.ChangeShapes Go.WideShapes Go.ChangeAt Go.RowKit Go.WideMaps Go.WideElems Go.ChangeMaps Go.LM

theorem packs_good (d : DL [.pr (.int .i64) (.pr (.int .i64) (.pr (.int .i64) (.pr (.sl (.sl (.int .i64))) .un))), .pr .bool (.pr .bool .un)]) (h : okDs [.pr (.int .i64) (.pr (.int .i64) (.pr (.int .i64) (.pr (.sl (.sl (.int .i64))) .un))), .pr .bool (.pr .bool .un)] d) (hb : bulkDs [.pr (.int .i64) (.pr (.int .i64) (.pr (.int .i64) (.pr (.sl (.sl (.int .i64))) .un))), .pr .bool (.pr .bool .un)] d ≤ 1048576) : (LQ.PcmPacks d.1 d.2 : Option Bool) = some true := by
  obtain ⟨⟨r, c, w, pl, u⟩, big, uns, u'⟩ := d
  have hb' : 1 + (1 + (1 + (bulkD (.sl (.sl (.int .i64))) pl + 0))) + _ ≤ 1048576 := hb
  exact PcmPacks_law r c w pl big uns (PB_of pl h.1.2.2.2.1 (by omega))

theorem pcmPacks_contract (H : Type) (enc : TypeId × Value → H) (W : World) (base : Nat) (args : Array Value) (ds gs : List (DataW H)) (before : List MemPlace)
    (hval : ∀ (j : Nat) t v, Try.f12.params[j]? = some t → args[j]? = some v → Value.okWide Try.prog W .any base t v)
    (hW : DataW.Whole enc Try.prog Try.f12.params.toList Rows.pcmPacksSpec.vars false W args.toList ds gs before) (hk : Rows.uptoSmall H (ds ++ gs) = true) :
    Calls Try.prog 12 args W fun e W' => ∃ v, e = .returned v ∧ Rows.pcmPacksSpec.post enc Try.prog Try.f12 false true false false W args v W' :=
  row_contract (B := 1048576) (ts := [.pr (.int .i64) (.pr (.int .i64) (.pr (.int .i64) (.pr (.sl (.sl (.int .i64))) .un))), .pr .bool (.pr .bool .un)]) (g := fun d => LQ.PcmPacks d.1 d.2) isBulk tLaid tSz TD.PcmPacks_ok packs_good (by kernel_rfl) (by kernel_rfl) rfl Try.underlying4 rfl
    (fun ds h => by match ds, h with | [d0, d1], _ => rfl) hval hW (of_decide_eq_true hk)

set_option maxRecDepth 100000 in
theorem pcmPacks_lifted (os : Os) (started : os.Started) (H : Type) (enc : TypeId × Value → H) (F : Stop.Interp) :
    ReturnsInHanded {} Try.checked os 12 .any ((Rows.OpenSpec.upto Rows.pcmPacksSpec).pre6 enc Try.prog Try.f12 Rows.pcmPacksUptoRow.domain false) (((Rows.OpenSpec.upto Rows.pcmPacksSpec).at F).post enc Try.prog Try.f12 false true false false) := by
  refine returnsInHanded_of_cond (C := Try.checked) (s := Rows.OpenSpec.upto Rows.pcmPacksSpec) (k := Rows.uptoSmall) rfl tOwn started (by kernel_rfl) Try.func12
    (OpenSpec.witness (enc := enc) (C := Try.checked) (s := Rows.OpenSpec.upto Rows.pcmPacksSpec) (k := Rows.uptoSmall) rfl false ⟨#[], #[.agg #[.int .i64 0, .int .i64 0, .int .i64 0, .slice none 0 0], .agg #[.bool false, .bool false]], []⟩ 8 (by kernel_rfl) (by kernel_rfl) (by kernel_rfl)
      (x := ([.agg [.lit (.int .i64 0), .lit (.int .i64 0), .lit (.int .i64 0), .nil], .agg [.lit (.bool false), .lit (.bool false)]], [], [])) (by kernel_rfl) rfl (by kernel_rfl)) ?_
  intro W base args ds gs before hval hW _ hk _
  exact pcmPacks_contract H enc W base args ds gs before hval hW hk

/-- THE STATEMENT. -/
theorem pcmPacks_holds : Rows.PcmPacksUptoSaid :=
  OpenClaim.holds_of_cond 12 Try.f12 rfl rfl rfl rfl rfl rfl rfl ⟨rfl, rfl, rfl, rfl, rfl⟩ rfl rfl rfl rfl rfl (by kernel_rfl) Try.func12 (by kernel_rfl)
    (of_decide_eq_true (by kernel_rfl)) (by unfold Func.isWrapper; first | (rw [if_pos (by decide +kernel)]; kernel_rfl) | (rw [if_neg (by decide +kernel)]; exact ⟨rfl, rfl⟩))
    (fun os started H enc _ F => pcmPacks_lifted os started H enc F)
#print axioms pcmPacks_holds
end Go.Proofs.Ytipoadjhenjpiaa.Dg
end

