/- The law lacquerlaw07.AiffBack return true for every input whose bulk is at most 1048576, and leave it as it was. Conditions: none beyond the rows. -/
import Derived.Test.YtfblaicifdgfiaaLmH
import Derived.Test.YtfblaicifdgfiaaAfS
import Derived.Test.YtfblaicifdgfiaaAha
import Derived.Test.YtfblaicifdgfiaaRows
import Derived.JoinedCond
import Derived.WalkKit
section
set_option linter.unusedVariables false
namespace Go.Proofs.Ytfblaicifdgfiaa.Dg
open Go.ChangeShapes Go.WideShapes Go.ChangeAt Go.RowKit Go.WideMaps Go.WideElems Go.ChangeMaps Go.LM
theorem tOwn : ownKnob Try.prog.godebug = none := by kernel_rfl
theorem tLaid : laidOutB Try.prog = true := by kernel_rfl
theorem tSz : szP Try.prog = true := by kernel_rfl
theorem isBulk {H : Type} : IsBulk (H := H) Rows.uptoBulk Rows.uptoBulkAll where
  lit bs := by simp only [Rows.uptoBulk]
  one d := by
    cases d with
    | lit l => cases l <;> simp [Rows.uptoBulk]
    | nil => simp [Rows.uptoBulk]
    | ptr d => simp [Rows.uptoBulk]
    | slice a b => simp [Rows.uptoBulk]
    | agg l => simp [Rows.uptoBulk]
    | iface a b => simp [Rows.uptoBulk]
    | map l => simp [Rows.uptoBulk]
    | held x => simp [Rows.uptoBulk]
  slice e s := by simp only [Rows.uptoBulk]
  agg l := by simp only [Rows.uptoBulk]
  nil := by simp only [Rows.uptoBulkAll]
  cons d l := by simp only [Rows.uptoBulkAll]
theorem back_good (d : DL [.str]) (_ : okDs [.str] d) (hb : bulkDs [.str] d ≤ 1048576) : (LQ.AiffBack d : Option Bool) = some true := by
  have hb' : List.length (α := UInt8) d + 1 ≤ 1048576 := hb
  exact AiffBack_law d (by omega)
set_option maxRecDepth 100000 in
theorem aiffBack_contract (H : Type) (enc : TypeId × Value → H) (W : World) (base : Nat) (args : Array Value) (ds gs : List (DataW H)) (before : List MemPlace)
    (hval : ∀ (j : Nat) t v, Try.f7.params[j]? = some t → args[j]? = some v → Value.okWide Try.prog W .any base t v)
    (hW : DataW.Whole enc Try.prog Try.f7.params.toList Rows.aiffBackSpec.vars false W args.toList ds gs before) (hk : Rows.uptoSmall H (ds ++ gs) = true) :
    Calls Try.prog 7 args W fun e W' => ∃ v, e = .returned v ∧ Rows.aiffBackSpec.post enc Try.prog Try.f7 false true false false W args v W' :=
  row_contract (B := 1048576) (ts := [.str]) (g := fun d => LQ.AiffBack d) isBulk tLaid tSz TD.AiffBack_ok back_good (by kernel_rfl) (by kernel_rfl) rfl Try.underlying4 rfl
    (fun ds h => by match ds, h with | [d0], _ => rfl) hval hW (of_decide_eq_true hk)
set_option maxRecDepth 100000 in
theorem aiffBack_lifted (os : Os) (started : os.Started) (H : Type) (enc : TypeId × Value → H) (F : Stop.Interp) :
    ReturnsInHanded {} Try.checked os 7 .any ((Rows.OpenSpec.upto Rows.aiffBackSpec).pre6 enc Try.prog Try.f7 Rows.aiffBackUptoRow.domain false) (((Rows.OpenSpec.upto Rows.aiffBackSpec).at F).post enc Try.prog Try.f7 false true false false) := by
  refine returnsInHanded_of_cond (C := Try.checked) (s := Rows.OpenSpec.upto Rows.aiffBackSpec) (k := Rows.uptoSmall) rfl tOwn started (by kernel_rfl) Try.func7
    (OpenSpec.witness (enc := enc) (C := Try.checked) (s := Rows.OpenSpec.upto Rows.aiffBackSpec) (k := Rows.uptoSmall) rfl false ⟨#[], #[.string ⟨#[]⟩], []⟩ 8 (by kernel_rfl) (by kernel_rfl) (by kernel_rfl)
      (x := ([.lit (.string [])], [], [])) (by kernel_rfl) rfl (by kernel_rfl)) ?_
  intro W base args ds gs before hval hW _ hk _
  exact aiffBack_contract H enc W base args ds gs before hval hW hk
theorem aiffBack_holds : Rows.AiffBackUptoSaid :=
  OpenClaim.holds_of_cond 7 Try.f7 rfl rfl rfl rfl rfl rfl rfl ⟨rfl, rfl, rfl, rfl, rfl⟩ rfl rfl rfl rfl rfl (by kernel_rfl) Try.func7 (by kernel_rfl)
    (of_decide_eq_true (by kernel_rfl)) (by unfold Func.isWrapper; first | (rw [if_pos (by decide +kernel)]; kernel_rfl) | (rw [if_neg (by decide +kernel)]; exact ⟨rfl, rfl⟩))
    (fun os started H enc _ F => aiffBack_lifted os started H enc F)
#print axioms aiffBack_holds
end Go.Proofs.Ytfblaicifdgfiaa.Dg
end

