/- The law lacquerlaw06.RiffChunks return true for every input whose bulk is at most 1048576, and leave it as it was. Conditions: none beyond the rows. -/
import Derived.Test.YtjjeohcohhhcpaaLmH
import Derived.Test.YtjjeohcohhhcpaaRfA
import Derived.Test.YtjjeohcohhhcpaaRfC
import Derived.Test.YtjjeohcohhhcpaaRows
import Derived.JoinedCond
import Derived.WalkKit
section
/- THE CLAIM. The law lacquerlaw06.RiffChunks return true for every input whose bulk is at most 1048576, and leave it as it was. Conditions: none beyond the rows. -/
set_option linter.unusedVariables false
namespace Go.Proofs.Ytjjeohcohhhcpaa.Dg
open Go.ChangeShapes Go.WideShapes Go.ChangeAt Go.RowKit Go.WideMaps Go.WideElems Go.ChangeMaps Go.LM

theorem tOwn : ownKnob Try.prog.godebug = none := by kernel_rfl
theorem tLaid : laidOutB Try.prog = true := by kernel_rfl
theorem tSz : szP Try.prog = true := by kernel_rfl

theorem isBulk {H : Type} : IsBulk (H := H) Rows.uptoBulk Rows.uptoBulkAll where
  lit bs := by simp only [Rows.uptoBulk]
  one d := by
    cases d with
    | lit l => cases l <;> simp [Rows.uptoBulk]
    | nil => simp [Rows.uptoBulk]
    | ptr d => simp [Rows.uptoBulk]
    | slice a b => simp [Rows.uptoBulk]
    | agg l => simp [Rows.uptoBulk]
    | iface a b => simp [Rows.uptoBulk]
    | map l => simp [Rows.uptoBulk]
    | held x => simp [Rows.uptoBulk]
  slice e s := by simp only [Rows.uptoBulk]
  agg l := by simp only [Rows.uptoBulk]
  nil := by simp only [Rows.uptoBulkAll]
  cons d l := by simp only [Rows.uptoBulkAll]

theorem sum_len {α : Type} (f : α → Nat) (hf : ∀ x, 1 ≤ f x) : ∀ (l : List α), l.length ≤ (l.map f).sum
  | [] => Nat.le_refl _
  | x :: l => by
    have h1 := sum_len f hf l
    have h2 := hf x
    simp only [List.map_cons, List.sum_cons, List.length_cons]; omega
theorem sum_mem {α : Type} (f : α → Nat) : ∀ (l : List α) (x : α), x ∈ l → f x ≤ (l.map f).sum
  | y :: l, x, h => by
    simp only [List.map_cons, List.sum_cons]
    rcases List.mem_cons.1 h with rfl | h
    · omega
    · have := sum_mem f l x h; omega

theorem chunks_good (d : DL [.str, .sl (.pr .str (.pr .str (.pr (.int .i64) .un))), .bool]) (_ : okDs [.str, .sl (.pr .str (.pr .str (.pr (.int .i64) .un))), .bool] d) (hb : bulkDs [.str, .sl (.pr .str (.pr .str (.pr (.int .i64) .un))), .bool] d ≤ 1048576) : (LQ.RiffChunks d.1 d.2.1 d.2.2 : Option Bool) = some true := by
  obtain ⟨s, l, big⟩ := d
  have hb' : List.length (α := UInt8) s + 1 + ((List.map (α := ChunkD) (bulkD (.pr .str (.pr .str (.pr (.int .i64) .un)))) l).sum + 1 + (1 + 0)) ≤ 1048576 := hb
  have e : ∀ p : ChunkD, bulkD (.pr .str (.pr .str (.pr (.int .i64) .un))) p = p.1.length + 1 + (p.2.1.length + 1 + (1 + 0)) := fun p => rfl
  have h1 := sum_len (α := ChunkD) (bulkD (.pr .str (.pr .str (.pr (.int .i64) .un)))) (fun p => by rw [e]; omega) l
  refine RiffChunks_law s l big (by omega) (by omega) fun k => ?_
  by_cases hk : k < l.length
  · have h2 := sum_mem (α := ChunkD) (bulkD (.pr .str (.pr .str (.pr (.int .i64) .un)))) l (l.getD k zCh) (by rw [getD_lt _ _ hk]; exact List.getElem_mem hk)
    rw [e] at h2
    exact ⟨by omega, by omega⟩
  · rw [List.getD_eq_getElem?_getD, List.getElem?_eq_none (by omega)]
    exact ⟨by simp [zCh], by simp [zCh]⟩

theorem riffChunks_contract (H : Type) (enc : TypeId × Value → H) (W : World) (base : Nat) (args : Array Value) (ds gs : List (DataW H)) (before : List MemPlace)
    (hval : ∀ (j : Nat) t v, Try.f5.params[j]? = some t → args[j]? = some v → Value.okWide Try.prog W .any base t v)
    (hW : DataW.Whole enc Try.prog Try.f5.params.toList Rows.riffChunksSpec.vars false W args.toList ds gs before) (hk : Rows.uptoSmall H (ds ++ gs) = true) :
    Calls Try.prog 5 args W fun e W' => ∃ v, e = .returned v ∧ Rows.riffChunksSpec.post enc Try.prog Try.f5 false true false false W args v W' :=
  row_contract (B := 1048576) (ts := [.str, .sl (.pr .str (.pr .str (.pr (.int .i64) .un))), .bool]) (g := fun d => LQ.RiffChunks d.1 d.2.1 d.2.2) isBulk tLaid tSz TD.RiffChunks_ok chunks_good (by kernel_rfl) (by kernel_rfl) rfl Try.underlying4 rfl
    (fun ds h => by match ds, h with | [d0, d1, d2], _ => rfl) hval hW (of_decide_eq_true hk)

set_option maxRecDepth 100000 in
theorem riffChunks_lifted (os : Os) (started : os.Started) (H : Type) (enc : TypeId × Value → H) (F : Stop.Interp) :
    ReturnsInHanded {} Try.checked os 5 .any ((Rows.OpenSpec.upto Rows.riffChunksSpec).pre6 enc Try.prog Try.f5 Rows.riffChunksUptoRow.domain false) (((Rows.OpenSpec.upto Rows.riffChunksSpec).at F).post enc Try.prog Try.f5 false true false false) := by
  refine returnsInHanded_of_cond (C := Try.checked) (s := Rows.OpenSpec.upto Rows.riffChunksSpec) (k := Rows.uptoSmall) rfl tOwn started (by kernel_rfl) Try.func5
    (OpenSpec.witness (enc := enc) (C := Try.checked) (s := Rows.OpenSpec.upto Rows.riffChunksSpec) (k := Rows.uptoSmall) rfl false ⟨#[], #[.string ⟨#[]⟩, .slice none 0 0, .bool false], []⟩ 8 (by kernel_rfl) (by kernel_rfl) (by kernel_rfl)
      (x := ([.lit (.string []), .nil, .lit (.bool false)], [], [])) (by kernel_rfl) rfl (by kernel_rfl)) ?_
  intro W base args ds gs before hval hW _ hk _
  exact riffChunks_contract H enc W base args ds gs before hval hW hk

/-- THE STATEMENT. -/
theorem riffChunks_holds : Rows.RiffChunksUptoSaid :=
  OpenClaim.holds_of_cond 5 Try.f5 rfl rfl rfl rfl rfl rfl rfl ⟨rfl, rfl, rfl, rfl, rfl⟩ rfl rfl rfl rfl rfl (by kernel_rfl) Try.func5 (by kernel_rfl)
    (of_decide_eq_true (by kernel_rfl)) (by unfold Func.isWrapper; first | (rw [if_pos (by decide +kernel)]; kernel_rfl) | (rw [if_neg (by decide +kernel)]; exact ⟨rfl, rfl⟩))
    (fun os started H enc _ F => riffChunks_lifted os started H enc F)
#print axioms riffChunks_holds
end Go.Proofs.Ytjjeohcohhhcpaa.Dg
end

