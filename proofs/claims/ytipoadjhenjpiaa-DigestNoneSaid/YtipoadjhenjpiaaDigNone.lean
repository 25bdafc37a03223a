/- The law lacquerlaw04.DigestNone returns true for every input and leaves it as it was. Conditions: none beyond the row. -/
import Derived.Test.YtipoadjhenjpiaaLmRow
import Derived.Test.YtipoadjhenjpiaaRows
set_option linter.unusedVariables false
namespace Go.Proofs.Ytipoadjhenjpiaa
open Go.ChangeShapes Go.WideShapes Go.ChangeAt Go.RowKit Go.WideMaps Go.WideElems Go.ChangeMaps Go.LM

theorem fit : fitP Try.prog = true := by decide +kernel
theorem tOwn : ownKnob Try.prog.godebug = none := by kernel_rfl
theorem tLaid : laidOutB Try.prog = true := by kernel_rfl

theorem none_run (s : List UInt8) : (exRun Try.prog (fun _ => []) (fun _ => .nil) 100 6 [.dat .str s] 0 noH).map (fun r => r.1) = some (.dat .bool true) := by kernel_rfl

set_option maxRecDepth 100000 in
theorem none_lifted (os : Os) (started : os.Started) (H : Type) (enc : TypeId × Value → H) :
    ReturnsInHanded {} Try.checked os 6 .any (Rows.digestNoneSpec.pre6 enc Try.prog Try.f6 Rows.digestNoneRow.domain false) (Rows.digestNoneSpec.post enc Try.prog Try.f6 false true false false) := by
  refine returnsInHanded_of_change (C := Try.checked) tOwn started (by kernel_rfl) Try.func6
    (ChangeSpec.witness6 (enc := enc) (C := Try.checked) false ⟨#[], #[.string ⟨#[]⟩], []⟩ 8 (by kernel_rfl) (by kernel_rfl) (by kernel_rfl) (by kernel_rfl)) ?_
  intro W base args ds gs before hval0 hW hcnd _
  have hval : ∀ (j : Nat) t v, Try.f6.params[j]? = some t → args[j]? = some v → Value.okWide Try.prog W .any base t v := hval0
  have hW' : DataW.Whole enc Try.prog Try.f6.params.toList Rows.digestNoneSpec.vars false W args.toList ds gs before := hW
  obtain ⟨p, q, hA0, hV, rfl, hfz, hnd⟩ := hW
  have hA : DataW.TrodAll enc Try.prog W 0 (fun _ => true) true Try.f6.params.toList args.toList ds p := hA0
  rw [Try.params6] at hA hval
  obtain ⟨v0, d0, rfl, rfl, h0⟩ := trodAll_one hA
  obtain ⟨s, rfl, rfl, rfl, hs⟩ := open_string Try.underlying9 (hval 0 9 v0 rfl rfl) h0
  obtain ⟨rfl, rfl⟩ := trodVars_none hV
  have hv : RelVs (fun b => b < W.heap.size) W noB [.dat .str s.data.toList] [.string s] := .cons _ _ _ _ (by have := RelV.str (F := fun b => b < W.heap.size) (w := W) (β := noB) s.data.toList; simpa using this) .nil
  refine (law_calls fit (none_run s.data.toList) hv).mono fun e W' h => ?_
  obtain ⟨rfl, ho⟩ := h
  exact ⟨_, rfl, law_post tLaid (by kernel_rfl) rfl Try.underlying4 rfl hW' rfl rfl rfl ho⟩

theorem digestNone_holds : Rows.DigestNoneSaid :=
  OpenClaim.holds_of_wide 6 Try.f6 rfl rfl rfl rfl rfl rfl rfl ⟨rfl, rfl, rfl, rfl, rfl⟩ rfl rfl rfl rfl rfl (by kernel_rfl) Try.func6 (by kernel_rfl)
    (of_decide_eq_true (by kernel_rfl)) (by unfold Func.isWrapper; first | (rw [if_pos (by decide +kernel)]; kernel_rfl) | (rw [if_neg (by decide +kernel)]; exact ⟨rfl, rfl⟩))
    (fun os started H enc _ => none_lifted os started H enc)
#print axioms digestNone_holds
end Go.Proofs.Ytipoadjhenjpiaa
