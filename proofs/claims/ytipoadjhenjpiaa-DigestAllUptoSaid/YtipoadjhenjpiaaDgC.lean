/- The laws lacquerlaw04.DigestAll, DigestCuts and DigestPieces return true for every input whose bulk is at most 1048576, and leave it as it was. Conditions: none beyond the rows. -/
import Derived.Test.YtipoadjhenjpiaaLmH
import Derived.Test.YtipoadjhenjpiaaDgA
import Derived.Test.YtipoadjhenjpiaaDgB
import Derived.Test.YtipoadjhenjpiaaRows
import Derived.JoinedCond
import Derived.WalkKit
section
/- THE CLAIM. The laws lacquerlaw04.DigestAll, DigestCuts and DigestPieces return true for every input whose bulk is at most 1048576, and leave it as it was. Conditions: none beyond the rows. -/
set_option linter.unusedVariables false
namespace Go.Proofs.Ytipoadjhenjpiaa.Dg
open Go.ChangeShapes Go.WideShapes Go.ChangeAt Go.RowKit Go.WideMaps Go.WideElems Go.ChangeMaps Go.LM

theorem tOwn : ownKnob Try.prog.godebug = none := by kernel_rfl
theorem tLaid : laidOutB Try.prog = true := by kernel_rfl
theorem tSz : szP Try.prog = true := by kernel_rfl

theorem isBulk {H : Type} : IsBulk (H := H) Rows.uptoBulk Rows.uptoBulkAll where
  lit bs := by simp only [Rows.uptoBulk]
  one d := by
    cases d with
    | lit l => cases l <;> simp [Rows.uptoBulk]
    | nil => simp [Rows.uptoBulk]
    | ptr d => simp [Rows.uptoBulk]
    | slice a b => simp [Rows.uptoBulk]
    | agg l => simp [Rows.uptoBulk]
    | iface a b => simp [Rows.uptoBulk]
    | map l => simp [Rows.uptoBulk]
    | held x => simp [Rows.uptoBulk]
  slice e s := by simp only [Rows.uptoBulk]
  agg l := by simp only [Rows.uptoBulk]
  nil := by simp only [Rows.uptoBulkAll]
  cons d l := by simp only [Rows.uptoBulkAll]

theorem all_good (d : DL [.str]) (_ : okDs [.str] d) (h : bulkDs [.str] d ≤ 1048576) : (LQ.DigestAll d : Option Bool) = some true := by
  have h' : List.length (α := UInt8) d + 1 + 0 ≤ 1048576 := h
  exact All_eq d (by omega)

theorem cuts_good (d : DL [.str, .int .i64]) (_ : okDs [.str, .int .i64] d) (h : bulkDs [.str, .int .i64] d ≤ 1048576) : (LQ.DigestCuts d.1 d.2 : Option Bool) = some true := by
  have h' : List.length (α := UInt8) d.1 + 1 + (1 + 0) ≤ 1048576 := h
  exact Cuts_eq d.1 d.2 (by omega)
theorem sum_len : ∀ (l : List (List UInt8)), (l.map List.length).sum + l.length = (l.map (bulkD .str)).sum
  | [] => rfl
  | x :: l => by
    have := sum_len l
    simp only [List.map_cons, List.sum_cons, List.length_cons, bulkD] at this ⊢
    omega
theorem pieces_good (d : DL [.sl .str]) (_ : okDs [.sl .str] d) (h : bulkDs [.sl .str] d ≤ 1048576) : (LQ.DigestPieces d : Option Bool) = some true := by
  have h' : (List.map (α := List UInt8) (bulkD .str) d).sum + 1 + 0 ≤ 1048576 := h
  have := sum_len d
  exact Pieces_eq d (by omega) (by omega)

theorem digestAll_contract (H : Type) (enc : TypeId × Value → H) (W : World) (base : Nat) (args : Array Value) (ds gs : List (DataW H)) (before : List MemPlace)
    (hval : ∀ (j : Nat) t v, Try.f3.params[j]? = some t → args[j]? = some v → Value.okWide Try.prog W .any base t v)
    (hW : DataW.Whole enc Try.prog Try.f3.params.toList Rows.digestAllSpec.vars false W args.toList ds gs before) (hk : Rows.uptoSmall H (ds ++ gs) = true) :
    Calls Try.prog 3 args W fun e W' => ∃ v, e = .returned v ∧ Rows.digestAllSpec.post enc Try.prog Try.f3 false true false false W args v W' :=
  row_contract (B := 1048576) (ts := [.str]) (g := LQ.DigestAll) isBulk tLaid tSz TD.DigestAll_ok all_good (by kernel_rfl) (by kernel_rfl) rfl Try.underlying4 rfl
    (fun ds h => by match ds, h with | [d0], _ => rfl) hval hW (of_decide_eq_true hk)

set_option maxRecDepth 100000 in
theorem digestAll_lifted (os : Os) (started : os.Started) (H : Type) (enc : TypeId × Value → H) (F : Stop.Interp) :
    ReturnsInHanded {} Try.checked os 3 .any ((Rows.OpenSpec.upto Rows.digestAllSpec).pre6 enc Try.prog Try.f3 Rows.digestAllUptoRow.domain false) (((Rows.OpenSpec.upto Rows.digestAllSpec).at F).post enc Try.prog Try.f3 false true false false) := by
  refine returnsInHanded_of_cond (C := Try.checked) (s := Rows.OpenSpec.upto Rows.digestAllSpec) (k := Rows.uptoSmall) rfl tOwn started (by kernel_rfl) Try.func3
    (OpenSpec.witness (enc := enc) (C := Try.checked) (s := Rows.OpenSpec.upto Rows.digestAllSpec) (k := Rows.uptoSmall) rfl false ⟨#[], #[.string ⟨#[]⟩], []⟩ 8 (by kernel_rfl) (by kernel_rfl) (by kernel_rfl)
      (x := ([.lit (.string [])], [], [])) (by kernel_rfl) rfl (by kernel_rfl)) ?_
  intro W base args ds gs before hval hW _ hk _
  exact digestAll_contract H enc W base args ds gs before hval hW hk

/-- THE STATEMENT. -/
theorem digestAll_holds : Rows.DigestAllUptoSaid :=
  OpenClaim.holds_of_cond 3 Try.f3 rfl rfl rfl rfl rfl rfl rfl ⟨rfl, rfl, rfl, rfl, rfl⟩ rfl rfl rfl rfl rfl (by kernel_rfl) Try.func3 (by kernel_rfl)
    (of_decide_eq_true (by kernel_rfl)) (by unfold Func.isWrapper; first | (rw [if_pos (by decide +kernel)]; kernel_rfl) | (rw [if_neg (by decide +kernel)]; exact ⟨rfl, rfl⟩))
    (fun os started H enc _ F => digestAll_lifted os started H enc F)
#print axioms digestAll_holds

theorem digestCuts_contract (H : Type) (enc : TypeId × Value → H) (W : World) (base : Nat) (args : Array Value) (ds gs : List (DataW H)) (before : List MemPlace)
    (hval : ∀ (j : Nat) t v, Try.f4.params[j]? = some t → args[j]? = some v → Value.okWide Try.prog W .any base t v)
    (hW : DataW.Whole enc Try.prog Try.f4.params.toList Rows.digestCutsSpec.vars false W args.toList ds gs before) (hk : Rows.uptoSmall H (ds ++ gs) = true) :
    Calls Try.prog 4 args W fun e W' => ∃ v, e = .returned v ∧ Rows.digestCutsSpec.post enc Try.prog Try.f4 false true false false W args v W' :=
  row_contract (B := 1048576) (ts := [.str, .int .i64]) (g := fun d => LQ.DigestCuts d.1 d.2) isBulk tLaid tSz TD.DigestCuts_ok cuts_good (by kernel_rfl) (by kernel_rfl) rfl Try.underlying4 rfl
    (fun ds h => by match ds, h with | [d0, d1], _ => rfl) hval hW (of_decide_eq_true hk)

set_option maxRecDepth 100000 in
theorem digestCuts_lifted (os : Os) (started : os.Started) (H : Type) (enc : TypeId × Value → H) (F : Stop.Interp) :
    ReturnsInHanded {} Try.checked os 4 .any ((Rows.OpenSpec.upto Rows.digestCutsSpec).pre6 enc Try.prog Try.f4 Rows.digestCutsUptoRow.domain false) (((Rows.OpenSpec.upto Rows.digestCutsSpec).at F).post enc Try.prog Try.f4 false true false false) := by
  refine returnsInHanded_of_cond (C := Try.checked) (s := Rows.OpenSpec.upto Rows.digestCutsSpec) (k := Rows.uptoSmall) rfl tOwn started (by kernel_rfl) Try.func4
    (OpenSpec.witness (enc := enc) (C := Try.checked) (s := Rows.OpenSpec.upto Rows.digestCutsSpec) (k := Rows.uptoSmall) rfl false ⟨#[], #[.string ⟨#[]⟩, .int .i64 0], []⟩ 8 (by kernel_rfl) (by kernel_rfl) (by kernel_rfl)
      (x := ([.lit (.string []), .lit (.int .i64 0)], [], [])) (by kernel_rfl) rfl (by kernel_rfl)) ?_
  intro W base args ds gs before hval hW _ hk _
  exact digestCuts_contract H enc W base args ds gs before hval hW hk

/-- THE STATEMENT. -/
theorem digestCuts_holds : Rows.DigestCutsUptoSaid :=
  OpenClaim.holds_of_cond 4 Try.f4 rfl rfl rfl rfl rfl rfl rfl ⟨rfl, rfl, rfl, rfl, rfl⟩ rfl rfl rfl rfl rfl (by kernel_rfl) Try.func4 (by kernel_rfl)
    (of_decide_eq_true (by kernel_rfl)) (by unfold Func.isWrapper; first | (rw [if_pos (by decide +kernel)]; kernel_rfl) | (rw [if_neg (by decide +kernel)]; exact ⟨rfl, rfl⟩))
    (fun os started H enc _ F => digestCuts_lifted os started H enc F)
#print axioms digestCuts_holds

theorem digestPieces_contract (H : Type) (enc : TypeId × Value → H) (W : World) (base : Nat) (args : Array Value) (ds gs : List (DataW H)) (before : List MemPlace)
    (hval : ∀ (j : Nat) t v, Try.f5.params[j]? = some t → args[j]? = some v → Value.okWide Try.prog W .any base t v)
    (hW : DataW.Whole enc Try.prog Try.f5.params.toList Rows.digestPiecesSpec.vars false W args.toList ds gs before) (hk : Rows.uptoSmall H (ds ++ gs) = true) :
    Calls Try.prog 5 args W fun e W' => ∃ v, e = .returned v ∧ Rows.digestPiecesSpec.post enc Try.prog Try.f5 false true false false W args v W' :=
  row_contract (B := 1048576) (ts := [.sl .str]) (g := LQ.DigestPieces) isBulk tLaid tSz TD.DigestPieces_ok pieces_good (by kernel_rfl) (by kernel_rfl) rfl Try.underlying4 rfl
    (fun ds h => by match ds, h with | [d0], _ => rfl) hval hW (of_decide_eq_true hk)

set_option maxRecDepth 100000 in
theorem digestPieces_lifted (os : Os) (started : os.Started) (H : Type) (enc : TypeId × Value → H) (F : Stop.Interp) :
    ReturnsInHanded {} Try.checked os 5 .any ((Rows.OpenSpec.upto Rows.digestPiecesSpec).pre6 enc Try.prog Try.f5 Rows.digestPiecesUptoRow.domain false) (((Rows.OpenSpec.upto Rows.digestPiecesSpec).at F).post enc Try.prog Try.f5 false true false false) := by
  refine returnsInHanded_of_cond (C := Try.checked) (s := Rows.OpenSpec.upto Rows.digestPiecesSpec) (k := Rows.uptoSmall) rfl tOwn started (by kernel_rfl) Try.func5
    (OpenSpec.witness (enc := enc) (C := Try.checked) (s := Rows.OpenSpec.upto Rows.digestPiecesSpec) (k := Rows.uptoSmall) rfl false ⟨#[], #[.slice none 0 0], []⟩ 8 (by kernel_rfl) (by kernel_rfl) (by kernel_rfl)
      (x := ([.nil], [], [])) (by kernel_rfl) rfl (by kernel_rfl)) ?_
  intro W base args ds gs before hval hW _ hk _
  exact digestPieces_contract H enc W base args ds gs before hval hW hk

/-- THE STATEMENT. -/
theorem digestPieces_holds : Rows.DigestPiecesUptoSaid :=
  OpenClaim.holds_of_cond 5 Try.f5 rfl rfl rfl rfl rfl rfl rfl ⟨rfl, rfl, rfl, rfl, rfl⟩ rfl rfl rfl rfl rfl (by kernel_rfl) Try.func5 (by kernel_rfl)
    (of_decide_eq_true (by kernel_rfl)) (by unfold Func.isWrapper; first | (rw [if_pos (by decide +kernel)]; kernel_rfl) | (rw [if_neg (by decide +kernel)]; exact ⟨rfl, rfl⟩))
    (fun os started H enc _ F => digestPieces_lifted os started H enc F)
#print axioms digestPieces_holds
end Go.Proofs.Ytipoadjhenjpiaa.Dg
end

