/- The law lacquerlaw10.SubframeVerbatim return true for every input whose bulk is at most 1048576, and leave it as it was. Conditions: none beyond the rows. -/
import Derived.Test.YtfblaicifdgfiaaLmH
import Derived.Test.YtfblaicifdgfiaaSfS
import Derived.Test.YtfblaicifdgfiaaSga
import Derived.Test.YtfblaicifdgfiaaRows
import Derived.JoinedCond
import Derived.WalkKit
section
set_option linter.unusedVariables false
namespace Go.Proofs.Ytfblaicifdgfiaa.Dg
open Go.ChangeShapes Go.WideShapes Go.ChangeAt Go.RowKit Go.WideMaps Go.WideElems Go.ChangeMaps Go.LM
theorem tOwn : ownKnob Try.prog.godebug = none := by kernel_rfl
theorem tLaid : laidOutB Try.prog = true := by kernel_rfl
theorem tSz : szP Try.prog = true := by kernel_rfl
theorem isBulk {H : Type} : IsBulk (H := H) Rows.uptoBulk Rows.uptoBulkAll where
  lit bs := by simp only [Rows.uptoBulk]
  one d := by
    cases d with
    | lit l => cases l <;> simp [Rows.uptoBulk]
    | nil => simp [Rows.uptoBulk]
    | ptr d => simp [Rows.uptoBulk]
    | slice a b => simp [Rows.uptoBulk]
    | agg l => simp [Rows.uptoBulk]
    | iface a b => simp [Rows.uptoBulk]
    | map l => simp [Rows.uptoBulk]
    | held x => simp [Rows.uptoBulk]
  slice e s := by simp only [Rows.uptoBulk]
  agg l := by simp only [Rows.uptoBulk]
  nil := by simp only [Rows.uptoBulkAll]
  cons d l := by simp only [Rows.uptoBulkAll]
theorem sum_ones : ∀ (l : List Int), (List.map (α := (Ty.int .i64).D) (bulkD (.int .i64)) l).sum = l.length
  | [] => rfl
  | x :: l => by
    have := sum_ones l
    simp only [List.map_cons, List.sum_cons, List.length_cons, bulkD] at this ⊢
    omega
theorem verbatim_good (d : DL [.sl (.int .i64), .int .i64]) (h : okDs [.sl (.int .i64), .int .i64] d) (hb : bulkDs [.sl (.int .i64), .int .i64] d ≤ 1048576) : (LQ.SVerb d.1 d.2 : Option Bool) = some true := by
  obtain ⟨l, w⟩ := d
  have hb' : (List.map (α := (Ty.int .i64).D) (bulkD (.int .i64)) l).sum + 1 + 1 ≤ 1048576 := hb
  rw [sum_ones] at hb'
  exact SubframeVerbatim_law l w (by omega)
set_option maxRecDepth 100000 in
theorem subframeVerbatim_contract (H : Type) (enc : TypeId × Value → H) (W : World) (base : Nat) (args : Array Value) (ds gs : List (DataW H)) (before : List MemPlace)
    (hval : ∀ (j : Nat) t v, Try.f3.params[j]? = some t → args[j]? = some v → Value.okWide Try.prog W .any base t v)
    (hW : DataW.Whole enc Try.prog Try.f3.params.toList Rows.subframeVerbatimSpec.vars false W args.toList ds gs before) (hk : Rows.uptoSmall H (ds ++ gs) = true) :
    Calls Try.prog 3 args W fun e W' => ∃ v, e = .returned v ∧ Rows.subframeVerbatimSpec.post enc Try.prog Try.f3 false true false false W args v W' :=
  row_contract (B := 1048576) (ts := [.sl (.int .i64), .int .i64]) (g := fun d => LQ.SVerb d.1 d.2) isBulk tLaid tSz TD.SVerb_ok verbatim_good (by kernel_rfl) (by kernel_rfl) rfl Try.underlying4 rfl
    (fun ds h => by match ds, h with | [d0, d1], _ => rfl) hval hW (of_decide_eq_true hk)
set_option maxRecDepth 100000 in
theorem subframeVerbatim_lifted (os : Os) (started : os.Started) (H : Type) (enc : TypeId × Value → H) (F : Stop.Interp) :
    ReturnsInHanded {} Try.checked os 3 .any ((Rows.OpenSpec.upto Rows.subframeVerbatimSpec).pre6 enc Try.prog Try.f3 Rows.subframeVerbatimUptoRow.domain false) (((Rows.OpenSpec.upto Rows.subframeVerbatimSpec).at F).post enc Try.prog Try.f3 false true false false) := by
  refine returnsInHanded_of_cond (C := Try.checked) (s := Rows.OpenSpec.upto Rows.subframeVerbatimSpec) (k := Rows.uptoSmall) rfl tOwn started (by kernel_rfl) Try.func3
    (OpenSpec.witness (enc := enc) (C := Try.checked) (s := Rows.OpenSpec.upto Rows.subframeVerbatimSpec) (k := Rows.uptoSmall) rfl false ⟨#[], #[.slice none 0 0, .int .i64 0], []⟩ 8 (by kernel_rfl) (by kernel_rfl) (by kernel_rfl)
      (x := ([.nil, .lit (.int .i64 0)], [], [])) (by kernel_rfl) rfl (by kernel_rfl)) ?_
  intro W base args ds gs before hval hW _ hk _
  exact subframeVerbatim_contract H enc W base args ds gs before hval hW hk
theorem subframeVerbatim_holds : Rows.SubframeVerbatimUptoSaid :=
  OpenClaim.holds_of_cond 3 Try.f3 rfl rfl rfl rfl rfl rfl rfl ⟨rfl, rfl, rfl, rfl, rfl⟩ rfl rfl rfl rfl rfl (by kernel_rfl) Try.func3 (by kernel_rfl)
    (of_decide_eq_true (by kernel_rfl)) (by unfold Func.isWrapper; first | (rw [if_pos (by decide +kernel)]; kernel_rfl) | (rw [if_neg (by decide +kernel)]; exact ⟨rfl, rfl⟩))
    (fun os started H enc _ F => subframeVerbatim_lifted os started H enc F)
#print axioms subframeVerbatim_holds
end Go.Proofs.Ytfblaicifdgfiaa.Dg
end

