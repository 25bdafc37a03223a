/- AfRp: AfShelfP AfRep. -/
import Derived.Shelf.Strings.Repeat
import Derived.Ground.Names2Prog
import Derived.Ground.SlgnProg
import Derived.Test.YtfblaicifdgfiaaProg
import Derived.Test.YtfblaicifdgfiaaAfQa
import Derived.Test.YtfblaicifdgfiaaLmH
section
namespace Go.Proofs
open Go.Shelf
def Try.lays105_ren : Go.Shelf.Ren := ⟨fun | 105 => 75 | 212 => 124 | 99 => 48 | 165 => 125 | 166 => 126 | 170 => 127 | 169 => 128 | 263 => 150 | 264 => 151 | 206 => 100 | 240 => 152 | 241 => 153 | 276 => 158 | 277 => 159 | n => n, fun | 9 => 9 | 3 => 3 | 4 => 4 | 20 => 20 | 0 => 0 | 46 => 23 | 109 => 176 | 5 => 5 | 72 => 180 | 76 => 183 | 51 => 200 | 146 => 202 | 53 => 78 | 148 => 204 | 70 => 178 | 37 => 68 | 75 => 182 | 127 => 206 | 164 => 208 | 80 => 38 | n => n, fun | n => n⟩
theorem Try.lays105 : Go.Proofs.Lays.n105 Try.prog Try.lays105_ren := {
  mixed := by kernel_rfl
  f99 := Try.func48.trans (congrArg some (by kernel_rfl))
  f105 := Try.func75.trans (congrArg some (by kernel_rfl))
  f165 := Try.func125.trans (congrArg some (by kernel_rfl))
  f166 := Try.func126.trans (congrArg some (by kernel_rfl))
  f169 := Try.func128.trans (congrArg some (by kernel_rfl))
  f170 := Try.func127.trans (congrArg some (by kernel_rfl))
  f206 := Try.func100.trans (congrArg some (by kernel_rfl))
  f212 := Try.func124.trans (congrArg some (by kernel_rfl))
  f240 := Try.func152.trans (congrArg some (by kernel_rfl))
  f241 := Try.func153.trans (congrArg some (by kernel_rfl))
  f263 := Try.func150.trans (congrArg some (by kernel_rfl))
  f264 := Try.func151.trans (congrArg some (by kernel_rfl))
  f276 := Try.func158.trans (congrArg some (by kernel_rfl))
  f277 := Try.func159.trans (congrArg some (by kernel_rfl))
  t0 := Try.underlying0
  a0 := Try.isAgg0
  z0 := Try.sizeOf0
  v0 := Try.zeroValue0
  t3 := Try.underlying3
  a3 := Try.isAgg3
  z3 := Try.sizeOf3
  v3 := Try.zeroValue3
  t4 := Try.underlying4
  a4 := Try.isAgg4
  z4 := Try.sizeOf4
  v4 := Try.zeroValue4
  t5 := Try.underlying5
  a5 := Try.isAgg5
  z5 := Try.sizeOf5
  v5 := Try.zeroValue5
  t9 := Try.underlying9
  a9 := Try.isAgg9
  z9 := Try.sizeOf9
  v9 := Try.zeroValue9
  t20 := Try.underlying20
  a20 := Try.isAgg20
  z20 := Try.sizeOf20
  v20 := Try.zeroValue20
  t37 := Try.underlying68
  a37 := Try.isAgg68
  z37 := Try.sizeOf68
  v37 := Try.zeroValue68
  t46 := Try.underlying23
  a46 := Try.isAgg23
  z46 := Try.sizeOf23
  v46 := Try.zeroValue23
  t51 := Try.underlying200
  a51 := Try.isAgg200
  z51 := Try.sizeOf200
  v51 := Try.zeroValue200
  t53 := Try.underlying78
  a53 := Try.isAgg78
  z53 := Try.sizeOf78
  v53 := Try.zeroValue78
  t70 := Try.underlying178
  a70 := Try.isAgg178
  z70 := Try.sizeOf178
  v70 := Try.zeroValue178
  t72 := Try.underlying180
  a72 := Try.isAgg180
  z72 := Try.sizeOf180
  v72 := Try.zeroValue180
  t75 := Try.underlying182
  a75 := Try.isAgg182
  z75 := Try.sizeOf182
  v75 := Try.zeroValue182
  t76 := Try.underlying183
  a76 := Try.isAgg183
  z76 := Try.sizeOf183
  v76 := Try.zeroValue183
  t109 := Try.underlying176
  a109 := Try.isAgg176
  z109 := Try.sizeOf176
  v109 := Try.zeroValue176
  t127 := Try.underlying206
  a127 := Try.isAgg206
  z127 := Try.sizeOf206
  v127 := Try.zeroValue206
  t146 := Try.underlying202
  a146 := Try.isAgg202
  z146 := Try.sizeOf202
  v146 := Try.zeroValue202
  t148 := Try.underlying204
  a148 := Try.isAgg204
  z148 := Try.sizeOf204
  v148 := Try.zeroValue204
  t164 := Try.underlying208
  a164 := Try.isAgg208
  z164 := Try.sizeOf208
  v164 := Try.zeroValue208 }
theorem Try.Builder_Extra_105 : Builder.Extra Try.prog Try.lays105_ren := {
  sizeBuilder := by kernel_rfl
  liesBuilder := by kernel_rfl
  t5 := Try.underlying5
  a5 := Try.isAgg5
  z5 := Try.sizeOf5
  v5 := Try.zeroValue5
  infoByte := by kernel_rfl
  cellsByte := by kernel_rfl
  sizeByte := by kernel_rfl
  neB5 := by decide }
open Go.RowKit Go.Lib in
theorem Try.strings_Repeat_main (s : ByteArray) (c : Nat) (w : World) (hc2 : 2 ≤ c) (hc : c ≤ 9223372036854775807) (hlen : s.size * c ≤ 140737488355328) (h0 : 0 < s.size) :
    Calls Try.prog 75 #[.string s, .int .i64 c] w fun e w' => e = .returned (.string ⟨(Lib.repeatL s.data.toList c).toArray⟩) ∧ Below w.heap.size w w' := Any.strings_Repeat_main Try.lays105 Try.Builder_Extra_105 s c w hc2 hc hlen h0
end Go.Proofs
end

section
set_option linter.unusedVariables false
set_option linter.unusedSimpArgs false
namespace Go.LM
theorem Good.below {X : Cst} {F : Nat → Prop} {w w' : World} {β : Nat → Option Conc} {H : Heap} (g : Good X F w β H) (hb : ∀ j, β j = none) (h : Go.RowKit.Below w.heap.size w w') : Good X F w' β H ∧ Ext F w β F w' β := by
  have hc : ∀ b, F b → cellsAt w' b = cellsAt w b := fun b hF => by
    unfold cellsAt
    rw [h.block b (g.fsz b hF)]
  refine ⟨⟨(fun j c hj => by rw [hb] at hj; cases hj), (fun j c b hj => by rw [hb] at hj; cases hj), (fun j j' c c' b hj => by rw [hb] at hj; cases hj), fun b hF => Nat.lt_of_lt_of_le (g.fsz b hF) h.size, g.fext, g.fmono, fun b hG => ?_, g.gsz, Nat.le_trans g.size h.size, ?_⟩, ⟨fun b hF => ⟨hF, hc b hF⟩, fun _ _ h => h⟩⟩
  · rw [h.block b (Nat.lt_of_lt_of_le (g.gsz b hG) g.size)]; exact g.frame b hG
  · exact ⟨h.os.trans g.tame.1, h.output.trans g.tame.2⟩
end Go.LM
namespace Go.Proofs.Ytfblaicifdgfiaa.Dg
open Go.LM
theorem TD.RepeatT_ok : ToldSound Go.Proofs.Try.prog 75 TD.RepeatT := by
  refine ⟨⟨_, Go.Proofs.Try.func75, rfl, by decide +kernel⟩, fun d r hr X F w β vals g hp hv => ?_⟩
  obtain ⟨s, n⟩ := d
  have hr : LQ.RepeatT s n = some r := hr
  unfold LQ.RepeatT at hr
  split at hr
  · rename_i h
    obtain ⟨rfl, rfl⟩ := h
    cases hr
    have hb : ∀ j, β j = none := fun j => by
      cases h : β j with
      | none => rfl
      | some c => have := hp j (by rw [h]; intro e; cases e); exact absurd this (Nat.not_lt_zero j)
    have hvv : vals = [.string ⟨#[0]⟩, .int .i64 8] := by
      cases hv with
      | cons _ _ v1 vs h1 h2 =>
        cases h2 with
        | cons _ _ v2 vs2 h3 h4 =>
          cases h4
          have e1 := h1.str_inv
          have e2 := h3.int_inv
          rw [e1, e2]; rfl
    rw [hvv]
    refine (Go.Proofs.Try.strings_Repeat_main ⟨#[0]⟩ 8 w (by decide) (by decide) (by decide) (by decide)).mono fun e w' h => ?_
    obtain ⟨rfl, hbl⟩ := h
    obtain ⟨g', ex⟩ := g.below hb hbl
    exact ⟨_, F, β, rfl, g', ex, fun _ _ => rfl, hp, .one _ _ rfl (.dat _ _ _ rfl)⟩
  · cases hr
end Go.Proofs.Ytfblaicifdgfiaa.Dg
end

