/- The law lacquerlaw10.SubframeBack return true for every input whose bulk is at most 1048576, and leave it as it was. Conditions: none beyond the rows. -/
import Derived.Test.YtfblaicifdgfiaaLmH
import Derived.Test.YtfblaicifdgfiaaSfS
import Derived.Test.YtfblaicifdgfiaaSge
import Derived.Test.YtfblaicifdgfiaaRows
import Derived.JoinedCond
import Derived.WalkKit
section
set_option linter.unusedVariables false
namespace Go.Proofs.Ytfblaicifdgfiaa.Dg
open Go.ChangeShapes Go.WideShapes Go.ChangeAt Go.RowKit Go.WideMaps Go.WideElems Go.ChangeMaps Go.LM
theorem tOwn : ownKnob Try.prog.godebug = none := by kernel_rfl
theorem tLaid : laidOutB Try.prog = true := by kernel_rfl
theorem tSz : szP Try.prog = true := by kernel_rfl
theorem isBulk {H : Type} : IsBulk (H := H) Rows.uptoBulk Rows.uptoBulkAll where
  lit bs := by simp only [Rows.uptoBulk]
  one d := by
    cases d with
    | lit l => cases l <;> simp [Rows.uptoBulk]
    | nil => simp [Rows.uptoBulk]
    | ptr d => simp [Rows.uptoBulk]
    | slice a b => simp [Rows.uptoBulk]
    | agg l => simp [Rows.uptoBulk]
    | iface a b => simp [Rows.uptoBulk]
    | map l => simp [Rows.uptoBulk]
    | held x => simp [Rows.uptoBulk]
  slice e s := by simp only [Rows.uptoBulk]
  agg l := by simp only [Rows.uptoBulk]
  nil := by simp only [Rows.uptoBulkAll]
  cons d l := by simp only [Rows.uptoBulkAll]
theorem sum_ones : ∀ (l : List Int), (List.map (α := (Ty.int .i64).D) (bulkD (.int .i64)) l).sum = l.length
  | [] => rfl
  | x :: l => by
    have := sum_ones l
    simp only [List.map_cons, List.sum_cons, List.length_cons, bulkD] at this ⊢
    omega
theorem i64_ok {x : Int} (h : okD (.int .i64) x) : -9223372036854775808 ≤ x ∧ x < 9223372036854775808 := by
  have h : (decide (IntKind.i64.min ≤ x) && decide (x ≤ IntKind.i64.max)) = true := h
  simp only [Bool.and_eq_true, decide_eq_true_eq] at h
  have e1 : IntKind.i64.min = -9223372036854775808 := by decide
  have e2 : IntKind.i64.max = 9223372036854775807 := by decide
  omega
theorem back_good (d : DL [.pr (.int .i64) (.pr (.int .i64) (.pr (.int .i64) (.pr (.int .i64) (.pr (.int .i64) (.pr (.sl (.int .i64)) (.pr (.pr (.int .i64) (.pr (.int .i64) (.pr (.sl (.int .i64)) (.pr (.sl (.int .i64)) .un)))) .un)))))), .int .i64, .sl (.int .i64)]) (h : okDs [.pr (.int .i64) (.pr (.int .i64) (.pr (.int .i64) (.pr (.int .i64) (.pr (.int .i64) (.pr (.sl (.int .i64)) (.pr (.pr (.int .i64) (.pr (.int .i64) (.pr (.sl (.int .i64)) (.pr (.sl (.int .i64)) .un)))) .un)))))), .int .i64, .sl (.int .i64)] d) (hb : bulkDs [.pr (.int .i64) (.pr (.int .i64) (.pr (.int .i64) (.pr (.int .i64) (.pr (.int .i64) (.pr (.sl (.int .i64)) (.pr (.pr (.int .i64) (.pr (.int .i64) (.pr (.sl (.int .i64)) (.pr (.sl (.int .i64)) .un)))) .un)))))), .int .i64, .sl (.int .i64)] d ≤ 1048576) : (LQ.SBack d.1 d.2.1 d.2.2 : Option Bool) = some true := by
  obtain ⟨⟨k, o, w, p, sf, cs, ⟨m, ro, ps, es, u⟩, u2⟩, W, l⟩ := d
  have hb' : (1 + (1 + (1 + (1 + (1 + (((List.map (α := (Ty.int .i64).D) (bulkD (.int .i64)) cs).sum + 1) + ((1 + (1 + (((List.map (α := (Ty.int .i64).D) (bulkD (.int .i64)) ps).sum + 1) + (((List.map (α := (Ty.int .i64).D) (bulkD (.int .i64)) es).sum + 1) + 0)))) + 0))))))) + (1 + ((List.map (α := (Ty.int .i64).D) (bulkD (.int .i64)) l).sum + 1)) ≤ 1048576 := hb
  rw [sum_ones, sum_ones, sum_ones, sum_ones] at hb'
  have hcs : ∀ c ∈ cs, inR c := fun c hc => i64_ok (h.1.2.2.2.2.2.1.2 c hc)
  have hm : inR m := i64_ok h.1.2.2.2.2.2.2.1.1
  have hl : ∀ c ∈ l, inR c := fun c hc => i64_ok (h.2.2.1.2 c hc)
  exact SBack_law k o w p sf m ro W cs ps es l hm hcs (by omega) (by omega) (by omega) hl
set_option maxRecDepth 100000 in
theorem subframeBack_contract (H : Type) (enc : TypeId × Value → H) (W : World) (base : Nat) (args : Array Value) (ds gs : List (DataW H)) (before : List MemPlace)
    (hval : ∀ (j : Nat) t v, Try.f4.params[j]? = some t → args[j]? = some v → Value.okWide Try.prog W .any base t v)
    (hW : DataW.Whole enc Try.prog Try.f4.params.toList Rows.subframeBackSpec.vars false W args.toList ds gs before) (hk : Rows.uptoSmall H (ds ++ gs) = true) :
    Calls Try.prog 4 args W fun e W' => ∃ v, e = .returned v ∧ Rows.subframeBackSpec.post enc Try.prog Try.f4 false true false false W args v W' :=
  row_contract (B := 1048576) (ts := [.pr (.int .i64) (.pr (.int .i64) (.pr (.int .i64) (.pr (.int .i64) (.pr (.int .i64) (.pr (.sl (.int .i64)) (.pr (.pr (.int .i64) (.pr (.int .i64) (.pr (.sl (.int .i64)) (.pr (.sl (.int .i64)) .un)))) .un)))))), .int .i64, .sl (.int .i64)]) (g := fun d => LQ.SBack d.1 d.2.1 d.2.2) isBulk tLaid tSz TD.SBack_ok back_good (by kernel_rfl) (by kernel_rfl) rfl Try.underlying4 rfl
    (fun ds h => by match ds, h with | [d0, d1, d2], _ => rfl) hval hW (of_decide_eq_true hk)
set_option maxRecDepth 100000 in
theorem subframeBack_lifted (os : Os) (started : os.Started) (H : Type) (enc : TypeId × Value → H) (F : Stop.Interp) :
    ReturnsInHanded {} Try.checked os 4 .any ((Rows.OpenSpec.upto Rows.subframeBackSpec).pre6 enc Try.prog Try.f4 Rows.subframeBackUptoRow.domain false) (((Rows.OpenSpec.upto Rows.subframeBackSpec).at F).post enc Try.prog Try.f4 false true false false) := by
  refine returnsInHanded_of_cond (C := Try.checked) (s := Rows.OpenSpec.upto Rows.subframeBackSpec) (k := Rows.uptoSmall) rfl tOwn started (by kernel_rfl) Try.func4
    (OpenSpec.witness (enc := enc) (C := Try.checked) (s := Rows.OpenSpec.upto Rows.subframeBackSpec) (k := Rows.uptoSmall) rfl false ⟨#[], #[.agg #[.int .i64 0, .int .i64 0, .int .i64 0, .int .i64 0, .int .i64 0, .slice none 0 0, .int .i64 0, .int .i64 0, .slice none 0 0, .slice none 0 0], .int .i64 0, .slice none 0 0], []⟩ 8 (by kernel_rfl) (by kernel_rfl) (by kernel_rfl)
      (x := ([.agg [.lit (.int .i64 0), .lit (.int .i64 0), .lit (.int .i64 0), .lit (.int .i64 0), .lit (.int .i64 0), .nil, .agg [.lit (.int .i64 0), .lit (.int .i64 0), .nil, .nil]], .lit (.int .i64 0), .nil], [], [])) (by kernel_rfl) rfl (by kernel_rfl)) ?_
  intro W base args ds gs before hval hW _ hk _
  exact subframeBack_contract H enc W base args ds gs before hval hW hk
theorem subframeBack_holds : Rows.SubframeBackUptoSaid :=
  OpenClaim.holds_of_cond 4 Try.f4 rfl rfl rfl rfl rfl rfl rfl ⟨rfl, rfl, rfl, rfl, rfl⟩ rfl rfl rfl rfl rfl (by kernel_rfl) Try.func4 (by kernel_rfl)
    (of_decide_eq_true (by kernel_rfl)) (by unfold Func.isWrapper; first | (rw [if_pos (by decide +kernel)]; kernel_rfl) | (rw [if_neg (by decide +kernel)]; exact ⟨rfl, rfl⟩))
    (fun os started H enc _ F => subframeBack_lifted os started H enc F)
#print axioms subframeBack_holds
end Go.Proofs.Ytfblaicifdgfiaa.Dg
end

