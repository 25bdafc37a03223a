/- PcE: PcU. -/
import Derived.Test.YtipoadjhenjpiaaPcD
import Derived.Test.YtipoadjhenjpiaaPcB
import Derived.Test.YtipoadjhenjpiaaDgB
section
set_option linter.unusedVariables false
set_option linter.unusedSimpArgs false
namespace Go.Proofs.Ytipoadjhenjpiaa.Dg
open Go.LM

theorem packV_le (big uns : Bool) (r c w : Int) (pl : List (List Int)) (hl : PB pl) (hp : pcmOk r c w pl = true) : (packV big uns w.toNat pl).length ≤ 33554432 := by
  obtain ⟨W, C, rfl, rfl, h1, h2, h3, h4, h5, h6, h7, h8⟩ := pcmOk_parts hp
  have hn0 := hl.n2 0
  have := rows_le big uns W pl (pl.getD 0 []).length ⟨h1, h2⟩ (by omega)
  rw [Int.toNat_natCast]
  unfold packV
  omega

theorem Digest_eq (r c w : Int) (pl : List (List Int)) (hl : PB pl) : LQ.pcm_Digest (r, c, w, pl, ()) = some (bif pcmOk r c w pl then (md5 (packV false false w.toNat pl), 0) else ([], 50)) := by
  unfold LQ.pcm_Digest LQ.pcm_Digest.t
  rw [Tr.run_bind, Pack_eq _ _ _ _ _ _ hl, Option.bind_some]
  cases hp : pcmOk r c w pl with
  | false => rfl
  | true =>
    have := packV_le false false r c w pl hl hp
    rw [cond_true, Tr.run_br, show ((0 : Int) != 0) = false from rfl, cond_false, Tr.run_bind, Of_eq _ (by simp only []; omega)]
    rfl
theorem rDigest_eq (r c w : Int) (pl : List (List Int)) (hl : PB pl) : LQ.r5_Digest (r, c, w, pl, ()) = some (bif pcmOk r c w pl then (md5 (packV false false w.toNat pl), 0) else ([], 50)) := by
  unfold LQ.r5_Digest LQ.r5_Digest.t
  rw [Tr.run_bind, rPack_eq _ _ _ _ _ _ hl, Option.bind_some]
  cases hp : pcmOk r c w pl with
  | false => rfl
  | true =>
    have := packV_le false false r c w pl hl hp
    rw [cond_true, Tr.run_br, show ((0 : Int) != 0) = false from rfl, cond_false, Tr.run_bind, rOf_eq _ (by simp only []; omega)]
    rfl
theorem PcmPacks_law (r c w : Int) (pl : List (List Int)) (big uns : Bool) (hl : PB pl) : LQ.PcmPacks (r, c, w, pl, ()) (big, uns, ()) = some true := by
  unfold LQ.PcmPacks LQ.PcmPacks.t
  simp only [Tr.run_bind, Tr.run_br, Tr.run_ret, Pack_eq _ _ _ _ _ _ hl, rPack_eq _ _ _ _ _ _ hl, Digest_eq _ _ _ _ hl, rDigest_eq _ _ _ _ hl, Option.bind_some, beq_self_eq_true, cond_true, awake05_eq]
end Go.Proofs.Ytipoadjhenjpiaa.Dg
end

